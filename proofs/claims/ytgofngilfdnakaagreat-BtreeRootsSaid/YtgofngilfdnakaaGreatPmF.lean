/-
  This text proves what cupellaw06.has answers where a tree has the model's keys; under bounds on lengths.
-/
import Derived.Test.YtgofngilfdnakaaGreatPmA
import Derived.Test.YtgofngilfdnakaaGreatPairs
import Derived.Test.YtgofngilfdnakaaGreatPmE

namespace Go.Proofs.YtgofngilfdnakaaGreat
open Go Go.RowKit

def SeqMod2 {α : Type} (F : Fence) (n : Nat) (P : Program) (g : Nat) (lb : Array Value) (encs : α → Array Value) (G B : Nat → Prop) (xs : List α) (w : World) : Prop :=
  ∀ (l : Nat) (J : List α → World → Prop) (W : World), Mod NoB w W → w.heap.size + 2 ≤ W.heap.size → (∀ s X Y, J s X → Mod G X Y → J s Y) →
    (∀ pre x, (∃ post, xs = pre ++ x :: post) → ∀ W1, J pre W1 → YieldAt F (n - 1) P l (encs x) W1 fun e W' => e = .returned (.bool true) ∧ J (pre ++ [x]) W' ∧ Mod (fun k => B k ∨ (w.heap.size ≤ k ∧ k < w.heap.size + 2)) W1 W') →
    J [] W → CallsIn F n P g (#[.func (.yield l) #[] #[]] ++ lb) W fun e W' => (∃ v, e = .returned v) ∧ J xs W'

theorem wpIn_rangeFunc_mod2 {F : Fence} {n : Nat} {P : Program} {α : Type} {g : Operand} {ps : Array Tmp} {assign body : Code} {Q : Exit → Act → World → Prop} {a : Act} {w : World}
    (hro : F.round = none) (h1 : 1 ≤ n) {gf : Nat} {lb : Array Value} (hg : a.eval g = .func (.func gf) #[] lb) (hFg : F.fn gf) (eg : ∀ args w, (callFunc gf args).run P w = .ok (.enter gf args) w)
    {encs : α → Array Value} {G B : Nat → Prop} {xs : List α} (hseq : SeqMod2 F (n - 1) P gf lb encs G B xs w) (hps : ∀ x, (encs x).size = ps.size)
    (hG : ∀ k, G k → k < w.heap.size) (hB : ∀ k, B k → k < w.heap.size)
    (I : List α → World → Prop) (hI : ∀ s X Y, I s X → Mod (fun k => G k ∨ (w.heap.size ≤ k ∧ k < w.heap.size + 2)) X Y → I s Y) (h0 : I [] w)
    (Ax : List α → α → Act → World → Prop) (hAx : ∀ pre x a' X Y, Ax pre x a' X → Mod (fun k => w.heap.size ≤ k ∧ k < w.heap.size + 2) X Y → Ax pre x a' Y)
    (hassign : ∀ (l : Nat) (pre : List α) (x : α) (W : World), I pre W → w.heap.size + 2 ≤ W.heap.size →
      assign.wpIn (F.inRound l) (n - 1 - 1) P (Exit.then (fun a' W' => Mod NoB W W' ∧ Ax pre x a' W') (fun _ _ _ => False)) { tmps := (ps.zip (encs x)).foldl (fun t (p, v) => t.setIfInBounds p v) a.tmps, defers := [] } W)
    (hbody : ∀ (l : Nat) (pre : List α) (x : α) (a' : Act) (W : World), (∃ post, xs = pre ++ x :: post) → Ax pre x a' W → w.heap.size + 2 ≤ W.heap.size → body.wpIn (F.inRound l) (n - 1 - 1) P (fun e _ W' => e = .normal ∧ Mod B W W' ∧ I (pre ++ [x]) W') a' W)
    (hdone : ∀ (W : World), I xs W → w.heap.size + 2 ≤ W.heap.size → W.heap[w.heap.size]? = some (.deferred (some [])) → Q .normal { a with defers := { target := .collected w.heap.size, args := #[] } :: a.defers } W) :
    (Code.rangeFunc g ps assign body).wpIn F n P Q a w := by
  refine wpIn_rangeFunc ?_
  intro fn hfn
  rw [hro]
  obtain ⟨rec, hrec⟩ : ∃ rec : LoopState → Option Code → Loop, rec = fun st pe => { state := st, pending := pe, fn, tmps := a.tmps, params := ps, assign, body, defers := w.heap.size } := ⟨_, rfl⟩
  obtain ⟨W1, hW1⟩ : ∃ W1, (w.alloc (.deferred (some []))).alloc (.loop (rec .ready none)) = W1 := ⟨_, rfl⟩
  have hL1 : W1.heap[w.heap.size + 1]? = some (.loop (rec .ready none)) := by
    rw [← hW1]; have := World.alloc_heap_new (w.alloc (.deferred (some []))) (.loop (rec .ready none)); rwa [World.size_alloc] at this
  have hK1 : W1.heap[w.heap.size]? = some (.deferred (some [])) := by
    rw [← hW1, heap_alloc_lt _ _ _ (by simp)]; exact World.alloc_heap_new w _
  have hM1 : Mod NoB w W1 := by rw [← hW1]; exact ((Mod.refl _ _).alloc _).alloc _
  have hI1 : I [] W1 := hI _ _ _ h0 (hM1.mono (noB_sub _ _))
  have hB1 : Mod NoB w W1 := hM1
  have hne : w.heap.size + 1 ≠ w.heap.size := by omega
  refine ⟨w.heap.size + 1, [{ target := .collected w.heap.size, args := #[] }], W1, { target := .fn (.func gf) lb, args := #[.func (.yield (w.heap.size + 1)) #[] #[]] }, W1, gf,
    #[.func (.yield (w.heap.size + 1)) #[] #[]] ++ lb, W1, ?_, ?_, ?_, ?_, fun _ => h1, ?_⟩
  · rw [← hW1, hrec]; exact run_enterLoop_outer _ _ _ _ _
  · simp only [resolve, hg]
    simp [go_sem]
  · intro f' hf'; simp [Target.leads] at hf'; subst hf'; exact hFg
  · simp [invoke, go_sem, eg]
  · refine (hseq (w.heap.size + 1)
      (fun pre W => I pre W ∧ W.heap[w.heap.size + 1]? = some (.loop (rec .ready none)) ∧ W.heap[w.heap.size]? = some (.deferred (some [])))
      W1 hB1 (by rw [← hW1]; simp) ?_ ?_ ⟨hI1, hL1, hK1⟩).mono ?_
    · rintro s X Y ⟨hi, hl, hk⟩ hm
      have h1 := lt_heap hl
      have h2 := lt_heap hk
      exact ⟨hI _ _ _ hi (hm.mono (fun _ _ h => .inl h)), (hm.block _ h1 (fun h => by have := hG _ h; omega)).trans hl, (hm.block _ h2 (fun h => by have := hG _ h; omega)).trans hk⟩
    · rintro pre x hpost W ⟨hi, hl, hk⟩
      have hlt := lt_heap hl
      have hy := run_yield (P := P) (args := encs x) hl (by rw [hrec]; exact hps x)
      rw [hrec] at hy
      refine ⟨fn, _, assign, body, hy, roundIn_of_wpIn hfn (wpIn_mono (hassign _ pre x W hi (by omega)) ?_)⟩
      rintro e a' Wa hp
      cases e with
      | normal =>
        obtain ⟨hma, hax⟩ := hp
        have hl' : Wa.heap[w.heap.size + 1]? = some (.loop (rec .ready none)) := (hma.block _ hlt id).trans hl
        have hk' : Wa.heap[w.heap.size]? = some (.deferred (some [])) := (hma.block _ (lt_heap hk) id).trans hk
        have hlt' := lt_heap hl'
        refine ⟨_, run_beginRound hl' (by rw [hrec]), ?_⟩
        have hm2 : Mod (fun k => w.heap.size ≤ k ∧ k < w.heap.size + 2) Wa (Wa.putObj (w.heap.size + 1) (.loop { rec .ready none with state := .busy })) := mod_putObj _ _ _ ⟨by omega, by omega⟩
        have hl2 : (Wa.putObj (w.heap.size + 1) (.loop { rec .ready none with state := .busy })).heap[w.heap.size + 1]? = some (.loop { rec .ready none with state := .busy }) := World.putObj_heap_same hlt'
        have hk2 : (Wa.putObj (w.heap.size + 1) (.loop { rec .ready none with state := .busy })).heap[w.heap.size]? = some (.deferred (some [])) := (World.putObj_heap_other (by omega)).trans hk'
        refine wpIn_mono (hbody _ pre x a' _ hpost (hAx _ _ _ _ _ hax hm2) (Nat.le_trans (show w.heap.size + 2 ≤ Wa.heap.size by omega) hm2.size)) ?_
        rintro e a3 W3 ⟨rfl, hm3, hi3⟩
        have hl3 := (hm3.block _ (lt_heap hl2) (fun h => by have := hB _ h; omega)).trans hl2
        have hk3 := (hm3.block _ (lt_heap hk2) (fun h => by have := hB _ h; omega)).trans hk2
        have hr := run_endRound (P := P) none hl3
        rw [hrec] at hr hl3
        have hm4 : ∀ o, Mod (fun k => w.heap.size ≤ k ∧ k < w.heap.size + 2) W3 (W3.putObj (w.heap.size + 1) o) := fun o => mod_putObj _ _ _ ⟨by omega, by omega⟩
        refine ⟨_, _, hr, rfl, ⟨hI _ _ _ hi3 ((hm4 _).mono (fun _ _ h => .inr h)), by rw [hrec]; exact World.putObj_heap_same (lt_heap hl3), (World.putObj_heap_other (by omega)).trans hk3⟩, ?_⟩
        refine ((((hma.mono (noB_sub _ _)).trans hm2 (fun _ _ h => .inr h)).trans hm3 (fun _ _ h => .inl h)).trans (hm4 _) (fun _ _ h => .inr h))
      | _ => exact hp.elim
    · rintro e W2 ⟨⟨v, rfl⟩, hi, hl, hk⟩
      have hlt := lt_heap hl
      exact ⟨none, _, by have := run_endLoop (P := P) hl (by rw [hrec]; simp); rw [hrec] at this; exact this,
        hdone _ (hI _ _ _ hi (mod_putObj _ _ _ (.inr ⟨by omega, by omega⟩))) (by simp [World.putObj]; omega) ((World.putObj_heap_other (by omega)).trans hk)⟩


end Go.Proofs.YtgofngilfdnakaaGreat

namespace Go.Proofs.YtgofngilfdnakaaGreat
open Go Go.RowKit
set_option linter.unusedSimpArgs false
attribute [local go_sem] over_cell over_frozen lt_over le_over noB loudUpon ByteArray.mk_append_mk ByteArray.extract_mk

def fromOn (M : Files) (f : Str) : Files := M.filter fun x => !bb x.1 f
abbrev pairVs (x : Str × Str) : Array Value := #[.string ⟨x.1.toArray⟩, .string ⟨x.2.toArray⟩]
theorem yield_any {n m : Nat} {P : Program} {l : Nat} {args : Array Value} {W : World} {R : Ending → World → Prop} (h : YieldAt Fence.wide n P l args W R) : YieldAt Fence.wide m P l args W R := by
  obtain ⟨fn, tmps, assign, body, h1, h2, h3⟩ := h
  exact ⟨fn, tmps, assign, body, h1, h2, fun c cs _ => h3 c cs (room_wide _)⟩
theorem from_drop (f : Str) : ∀ {M : Files}, Sorted M → fromOn M f = M.drop (rFind M f)
  | [], _ => rfl
  | x :: M, h => by
    obtain ⟨h1, h2⟩ := List.pairwise_cons.1 h
    unfold fromOn
    cases hb : bb x.1 f with
    | true =>
      rw [List.filter_cons_of_neg (by rw [hb]; decide), rFind_cons_lt hb]
      exact from_drop f h2
    | false =>
      rw [rFind_cons_ge hb, List.drop_zero]
      refine List.filter_eq_self.2 fun y hy => ?_
      rcases List.mem_cons.1 hy with rfl | hy
      · rw [hb]; rfl
      · cases hy2 : bb y.1 f with
        | false => rfl
        | true =>
          have := bb_trans (h1 y hy) hy2
          rw [hb] at this
          cases this
theorem drop_step {M : Files} {i j : Nat} (hij : i ≤ j) (hj : j < M.length) : (M.take (j + 1)).drop i = (M.take j).drop i ++ [M[j]] := by
  rw [List.take_succ_eq_append_getElem hj, List.drop_append_of_le_length (by rw [List.length_take]; omega)]
structure Tells (P : Program) (ly b0 t l : Nat) (J : List (Str × Str) → World → Prop) (Bd : Nat → Prop) (xs : Files) : Prop where
  quiet : ∀ s X Y, J s X → Mod NoB X Y → J s Y
  yields : ∀ pre x, (∃ post, xs = pre ++ x :: post) → ∀ W1, J pre W1 → YieldAt Fence.wide 4 P ly (pairVs x) W1 fun e W' => e = .returned (.bool true) ∧ J (pre ++ [x]) W' ∧ Mod Bd W1 W'
  below : ∀ q, Bd q → q < b0 ∧ q ≠ t ∧ q ≠ l
def Walks (t l p : Nat) (g : Lg) (root : Int) (ly b0 : Nat) (J : List (Str × Str) → World → Prop) (Bd : Nat → Prop) (xs : Files) (f : Str) (d : Nat) : Prop :=
  ∀ (k m : Nat) (lo : Str) (hi : Option Str) (M : Files) (pre : Files) (W : World), TL W t l p g root → b0 ≤ W.heap.size → Rep (rdG g) m d k lo hi M → J pre W → (∃ post, xs = pre ++ (fromOn M f ++ post)) →
    Calls Tryz.prog 110 #[.pointer (some ⟨t, 0, none⟩), .int .i64 k, .string ⟨f.toArray⟩, .func (.yield ly) #[] #[]] W fun e W' => e = .returned (.bool true) ∧ J (pre ++ fromOn M f) W' ∧ Mod Bd W W'

set_option maxRecDepth 100000 in
set_option maxHeartbeats 6400000 in
theorem walk_leaf (t l p : Nat) (g : Lg) (root : Int) (ly b0 : Nat) (J : List (Str × Str) → World → Prop) (Bd : Nat → Prop) (xs : Files) (f : Str) (hs : Small g 0) (hT : Tells Tryz.prog ly b0 t l J Bd xs) : Walks t l p g root ly b0 J Bd xs f 0 := by
  intro k m lo hi M pre W h hbW hr hJ hxs
  obtain ⟨_, q, hq, hm, h8, hp⟩ := hr
  have HLD := Lib.hid (load_calls t l p g root k q W h hq hs)
  have HPG := Lib.hid hq.1
  have HLF := Lib.hid hp.1
  have HTE := Lib.hid hT
  have HJ := Lib.hid hJ
  have HXS := Lib.hid hxs
  unfold pageV at HLD
  rw [HLF.out] at HLD
  have hso : Sorted M := hp.2.2.2.2.1
  have hkm : q.keys = M.map (·.1) := hp.2.2.1
  have hvm : q.vals = M.map (·.2) := hp.2.2.2.1
  rw [from_drop f hso] at hxs ⊢
  have hkf : kFind q.keys f = rFind M f := by rw [hkm]; exact kFind_map M f
  have hml : q.keys.length = M.length := by rw [hkm]; simp
  have hvl : q.vals.length = M.length := by rw [hvm]; simp
  have hir := kFind_le q.keys f
  have HKM := Lib.hid hkm
  have HVM := Lib.hid hvm
  have HML := Lib.hid hml
  have HVL := Lib.hid hvl
  replace HXS := Lib.hid hxs
  have hkf2 := hkf.symm
  rw [hkf2] at HXS ⊢
  clear hkf2
  clear h hq hp hT hJ hxs hs hkm hvm hml hvl hso
  generalize hkg : kFind q.keys f = i0 at *
  have HKG := Lib.hid hkg
  clear hkf hkg
  go_enter Tryz.func110, Tryz.ntmps110
  go_wp2_with fail
  refine HLD.out.mono ?_
  rintro e W2 ⟨kv, vv, cv, rfl, ho2, hm2⟩
  obtain ⟨⟨a1, c1, rfl⟩, ⟨a2, c2, rfl⟩, a3, c3, rfl⟩ := ho2.shapes
  obtain ⟨W3, hW3⟩ : ∃ W3, W2.alloc (.cells #[.bool true, .slice a1 q.keys.length c1, .slice a2 q.vals.length c2, .slice a3 q.kids.length c3] 130) = W3 := ⟨_, rfl⟩
  have hm3 : Mod NoB W2 W3 := by rw [← hW3]; exact (Mod.refl _ _).alloc _
  have hP3 : W3.heap[W2.heap.size]? = some (.cells #[.bool true, .slice a1 q.keys.length c1, .slice a2 q.vals.length c2, .slice a3 q.kids.length c3] 130 (0, 0)) := by rw [← hW3]; exact heap_alloc_new _ _
  have HM3 := Lib.hid (hm2.trans hm3 (fun _ _ h => h))
  have HSZ2 := Lib.hid hm2.size
  have HO3 := Lib.hid (ho2.mod hm3)
  obtain ⟨pb, p0, p1, p2, p3, pf⟩ := Page4.facts hP3
  have HP3 := Lib.hid hP3
  have hfc := Find_calls q _ _ _ f W3 HO3.out.in1 HPG.out
  unfold pageV at hfc
  rw [HLF.out, HKG.out] at hfc
  generalize kIs q.keys f = bs at hfc
  have HFC := Lib.hid hfc
  clear hm2 ho2 hm3 hP3 HLD hfc
  go_wp2_with fail
  clear hW3
  refine HFC.out.mono ?_
  rintro e W4 ⟨rfl, hm4⟩
  have HP4 := Lib.hid ((hm4.block _ pb id).trans HP3.out)
  have HO4 := Lib.hid (HO3.out.mod hm4)
  have HM4 := Lib.hid (HM3.out.trans hm4 (fun _ _ h => h))
  have hsz := HM3.out.size
  have hsz4 := hm4.size
  clear p0 p1 p2 p3 pf hm4 HFC HM3 HO3 HP3
  have hbP : b0 ≤ W2.heap.size := Nat.le_trans hbW HSZ2.out
  generalize W2.heap.size = P at *
  have hk100 : q.keys.length ≤ 100 := by omega
  go_wp2_with fail
  go_loopw [11] (fun i wr => ∃ j : Nat, i0 ≤ j ∧ j ≤ q.keys.length ∧ i = .int .i64 j ∧ Hid (J (pre ++ (M.take j).drop i0) wr) ∧ Hid (Mod Bd W4 wr)) (fun i _ => q.keys.length - (intOf i).toNat)
  case atStart =>
    refine ⟨i0, Nat.le_refl _, hir, rfl, ?_, Mod.refl _ _⟩
    have := HTE.out.quiet _ _ _ HJ.out HM4.out
    rw [List.drop_eq_nil_of_le (by rw [List.length_take]; omega), List.append_nil]
    exact this
  case round =>
    obtain ⟨j, hij, hj, rfl, HJ1, HMR⟩ := hrel
    have hsr := HMR.out.size
    have hPr := (HMR.out.block P (lt_heap HP4.out) (fun e => by have := (HTE.out.below P e).1; omega)).trans HP4.out
    obtain ⟨pb, p0, p1, p2, p3, pf⟩ := Page4.facts hPr
    clear hPr
    by_cases hlt : j < q.keys.length
    · have hjM : j < M.length := by have := HML.out; omega
      have hks : q.keys[j]? = some M[j].1 := by rw [HKM.out, List.getElem?_map, List.getElem?_eq_getElem hjM]; rfl
      have hvs : q.vals[j]? = some M[j].2 := by rw [HVM.out, List.getElem?_map, List.getElem?_eq_getElem hjM]; rfl
      have hok := own_of_mod HO4.out.k HMR.out (fun r hr e => by have := (HTE.out.below r e).1; have := (HO4.out.k.lt r hr).1; omega)
      have hov := own_of_mod HO4.out.v HMR.out (fun r hr e => by have := (HTE.out.below r e).1; have := (HO4.out.v.lt r hr).1; omega)
      have hvlt : j < q.vals.length := by rw [HVL.out]; exact hjM
      obtain ⟨_, _, e2, _, _, _, hg⟩ := own_shape hok
      cases e2
      obtain ⟨kg, rfl⟩ := hg (by omega)
      clear hg
      obtain ⟨_, _, e2, _, _, _, hg⟩ := own_shape hov
      cases e2
      obtain ⟨vg, rfl⟩ := hg (by omega)
      clear hg
      obtain ⟨c0, _, cb⟩ := row_atS hok hks rfl
      obtain ⟨d0, _, db⟩ := row_atS hov hvs rfl
      have hstep := drop_step hij hjM
      obtain ⟨post, hxs⟩ := HXS.out
      have hxs2 : xs = (pre ++ (M.take j).drop i0) ++ M[j] :: (M.drop (j + 1) ++ post) := by
        rw [hxs]
        have : M.drop i0 = (M.take j).drop i0 ++ M[j] :: M.drop (j + 1) := by
          have h1 : M = M.take j ++ M.drop j := (List.take_append_drop j M).symm
          conv => lhs; rw [h1]
          rw [List.drop_append_of_le_length (by rw [List.length_take]; omega), List.drop_eq_getElem_cons hjM]
        rw [this]
        simp only [List.append_assoc, List.cons_append]
      obtain ⟨fn, tmps, assign, body, hy, hR⟩ := HTE.out.yields _ M[j] ⟨_, hxs2⟩ wr.drew (HTE.out.quiet _ _ _ HJ1.out (Mod.drew (Mod.refl _ _)))
      have HR := Lib.hid hR
      have HST := Lib.hid hstep
      clear hR hxs2 hxs hks hvs hok hov hstep
      generalize M[j] = x at *
      go_upto_region 8 with fail
      refine (wpIn_wide (n := 5)).1 ?_
      refine wpIn_region_any (by kernel_rfl) ?_
      refine wpAnyIn_take (i := 0) (v := ?_) rfl rfl (by kernel_rfl) (by kernel_rfl) (by kernel_rfl) (fun _ _ _ h => h) ⟨Or.inl ⟨by rfl, ?_⟩, fun _ => rfl⟩ ?_
      rotate_left
      · (intro wS; simp only [ga, gz]; go_simp; try with_reducible rfl)
      simp only [Act.put, ga, gz, sb, sz, ss]
      refine wpAnyIn_take (i := 1) (v := ?_) rfl rfl (by kernel_rfl) (by kernel_rfl) (by kernel_rfl) (fun _ _ _ h => h) ⟨Or.inl ⟨by rfl, ?_⟩, fun _ => rfl⟩ ?_
      rotate_left
      · (intro wS; simp only [ga, gs, gz]; go_simp; try with_reducible rfl)
      simp only [Act.put, ga, gs, gz, sb, sz, ss]
      refine wpAnyIn_take (i := 3) (v := ?_) rfl rfl (by kernel_rfl) (by kernel_rfl) (by kernel_rfl) (fun _ _ _ h => h) ⟨Or.inl ⟨by rfl, ?_⟩, fun _ => rfl⟩ ?_
      rotate_left
      · (intro wS; simp only [ga, gs, gz]; go_simp; try with_reducible rfl)
      simp only [Act.put, ga, gs, gz, sb, sz, ss]
      refine wpAnyIn_take (i := 6) (v := ?_) rfl rfl (by kernel_rfl) (by kernel_rfl) (by kernel_rfl) (fun _ _ _ h => h) ⟨Or.inl ⟨by rfl, ?_⟩, fun _ => rfl⟩ ?_
      rotate_left
      · (intro wS; simp only [ga, gs, gz]; go_simp; try with_reducible rfl)
      simp only [Act.put, ga, gs, gz, sb, sz, ss]
      refine wpAnyIn_take (i := 8) (v := ?_) rfl rfl (by kernel_rfl) (by kernel_rfl) (by kernel_rfl) (fun _ _ _ h => h) ⟨Or.inl ⟨by rfl, ?_⟩, fun _ => rfl⟩ ?_
      rotate_left
      · (intro wS; simp only [ga, gs, gz]; go_simp; try with_reducible rfl)
      simp only [Act.put, ga, gs, gz, sb, sz, ss]
      refine wpAnyIn_all (rs := [2, 7]) (by kernel_rfl) (by simp) (List.forall_mem_cons.2 ⟨wpOpIn_step rfl ?_, List.forall_mem_cons.2 ⟨wpOpIn_step rfl ?_, List.forall_mem_nil _⟩⟩)
      · intro K hK
        dsimp only [ga, gs, gz]
        rw [if_pos (by rfl)]
        refine ⟨fun _ _ => trivial, ?_⟩
        simp only [Fence.wide_round, Oper.semAt_none]
        go_simp
        refine hK _ _ ?_
        clear hK K
        (try simp only [Act.put, List.setIfInBounds_toArray, List.set_cons_zero, List.set_cons_succ])
        refine wpAnyIn_take (i := 4) (v := ?_) rfl rfl (by kernel_rfl) (by kernel_rfl) (by kernel_rfl) (fun _ _ _ h => h) ⟨Or.inl ⟨by rfl, ?_⟩, fun _ => rfl⟩ ?_
        rotate_left
        · (intro wS; simp only [ga, gs, gz]; go_simp; try with_reducible rfl)
        simp only [Act.put, ga, gs, gz, sb, sz, ss]
        refine wpAnyIn_all (rs := [5, 7]) (by kernel_rfl) (by simp) (List.forall_mem_cons.2 ⟨wpOpIn_step rfl ?_, List.forall_mem_cons.2 ⟨wpOpIn_step rfl ?_, List.forall_mem_nil _⟩⟩)
        · intro K hK
          dsimp only [ga, gs, gz]
          rw [if_pos (by rfl)]
          refine ⟨fun _ _ => trivial, ?_⟩
          simp only [Fence.wide_round, Oper.semAt_none]
          go_simp
          refine hK _ _ ?_
          clear hK K
          (try simp only [Act.put, List.setIfInBounds_toArray, List.set_cons_zero, List.set_cons_succ])
          refine wpAnyIn_all (rs := [7]) (by kernel_rfl) (by simp) (List.forall_mem_cons.2 ⟨wpOpIn_step rfl ?_, List.forall_mem_nil _⟩)
          intro K hK
          dsimp only [ga, gs, gz]
          rw [if_pos (by rfl)]
          refine ⟨fun _ _ => trivial, ?_⟩
          simp only [Fence.wide_round, Oper.semAt_none]
          go_simp
          refine hK _ _ ?_
          clear hK K
          (try simp only [Act.put, List.setIfInBounds_toArray, List.set_cons_zero, List.set_cons_succ])
          refine wpAnyIn_take (i := 9) (v := ?_) rfl rfl (by kernel_rfl) (by kernel_rfl) (by kernel_rfl) (fun _ _ _ h => h) ⟨Or.inl ⟨by rfl, ?_⟩, fun _ => rfl⟩ ?_
          rotate_left
          · (intro wS; simp only [ga, gs, gz]; go_simp; try with_reducible rfl)
          simp only [Act.put, ga, gs, gz, sb, sz, ss]
          refine wpAnyIn_all (rs := [10]) (by kernel_rfl) (by simp) (List.forall_mem_cons.2 ⟨wpOpIn_step rfl ?_, List.forall_mem_nil _⟩)
          intro K hK
          dsimp only [ga, gs, gz]
          rw [if_pos (by rfl)]
          refine ⟨fun _ _ => trivial, ?_⟩
          simp only [Fence.wide_round, Oper.semAt_none]
          go_simp
          refine hK _ _ ?_
          clear hK K
          (try simp only [Act.put, List.setIfInBounds_toArray, List.set_cons_zero, List.set_cons_succ])
          refine wpAnyIn_all (rs := [11]) (by kernel_rfl) (by simp) (List.forall_mem_cons.2 ⟨wpOpIn_step rfl ?_, List.forall_mem_nil _⟩)
          intro K hK
          dsimp only [ga, gs, gz]
          rw [if_pos (by rfl)]
          refine ⟨fun _ _ => trivial, ?_⟩
          simp only [Fence.wide_round, Oper.semAt_none]
          go_simp
          refine HR.out.mono ?_
          rintro e W5 ⟨rfl, hJ5, hm5⟩
          have HJ5 := Lib.hid hJ5
          have HM5 := Lib.hid ((HMR.out.trans (show Mod Bd wr wr.drew from Mod.drew (Mod.refl _ _)) (fun _ _ h => h)).trans hm5 (fun _ _ h => h))
          rw [List.append_assoc, ← HST.out] at HJ5
          clear hJ5 hm5
          refine hK _ _ ?_
          clear hK K
          (try simp only [Act.put, List.setIfInBounds_toArray, List.set_cons_zero, List.set_cons_succ])
          refine wpAnyIn_take (i := 12) (v := ?_) rfl rfl (by kernel_rfl) (by kernel_rfl) (by kernel_rfl) (fun _ _ _ h => h) ⟨Or.inl ⟨by rfl, ?_⟩, fun _ => rfl⟩ ?_
          rotate_left
          · (intro wS; simp only [ga, gs, gz]; go_simp; try with_reducible rfl)
          simp only [Act.put, ga, gs, gz, sb, sz, ss]
          refine wpAnyIn_done (by kernel_rfl) ?_ _
          go_wp2_with fail
          go_roundw
          case rel => exact ⟨j + 1, by omega, by omega, by go_num, HJ5, HM5⟩
          case measure => simp [intOf]; omega
        · intro K hK
          dsimp only [ga, gs, gz]
          rw [if_pos (by rfl)]
          refine ⟨fun _ _ => trivial, ?_⟩
          simp only [Fence.wide_round, Oper.semAt_none]
          go_simp
          refine hK _ _ ?_
          clear hK K
          (try simp only [Act.put, List.setIfInBounds_toArray, List.set_cons_zero, List.set_cons_succ])
          refine wpAnyIn_take (i := 9) (v := ?_) rfl rfl (by kernel_rfl) (by kernel_rfl) (by kernel_rfl) (fun _ _ _ h => h) ⟨Or.inl ⟨by rfl, ?_⟩, fun _ => rfl⟩ ?_
          rotate_left
          · (intro wS; simp only [ga, gs, gz]; go_simp; try with_reducible rfl)
          simp only [Act.put, ga, gs, gz, sb, sz, ss]
          refine wpAnyIn_all (rs := [5, 10]) (by kernel_rfl) (by simp) (List.forall_mem_cons.2 ⟨wpOpIn_step rfl ?_, List.forall_mem_cons.2 ⟨wpOpIn_step rfl ?_, List.forall_mem_nil _⟩⟩)
          · intro K hK
            dsimp only [ga, gs, gz]
            rw [if_pos (by rfl)]
            refine ⟨fun _ _ => trivial, ?_⟩
            simp only [Fence.wide_round, Oper.semAt_none]
            go_simp
            refine hK _ _ ?_
            clear hK K
            (try simp only [Act.put, List.setIfInBounds_toArray, List.set_cons_zero, List.set_cons_succ])
            refine wpAnyIn_all (rs := [10]) (by kernel_rfl) (by simp) (List.forall_mem_cons.2 ⟨wpOpIn_step rfl ?_, List.forall_mem_nil _⟩)
            intro K hK
            dsimp only [ga, gs, gz]
            rw [if_pos (by rfl)]
            refine ⟨fun _ _ => trivial, ?_⟩
            simp only [Fence.wide_round, Oper.semAt_none]
            go_simp
            refine hK _ _ ?_
            clear hK K
            (try simp only [Act.put, List.setIfInBounds_toArray, List.set_cons_zero, List.set_cons_succ])
            refine wpAnyIn_all (rs := [11]) (by kernel_rfl) (by simp) (List.forall_mem_cons.2 ⟨wpOpIn_step rfl ?_, List.forall_mem_nil _⟩)
            intro K hK
            dsimp only [ga, gs, gz]
            rw [if_pos (by rfl)]
            refine ⟨fun _ _ => trivial, ?_⟩
            simp only [Fence.wide_round, Oper.semAt_none]
            go_simp
            refine HR.out.mono ?_
            rintro e W5 ⟨rfl, hJ5, hm5⟩
            have HJ5 := Lib.hid hJ5
            have HM5 := Lib.hid ((HMR.out.trans (show Mod Bd wr wr.drew from Mod.drew (Mod.refl _ _)) (fun _ _ h => h)).trans hm5 (fun _ _ h => h))
            rw [List.append_assoc, ← HST.out] at HJ5
            clear hJ5 hm5
            refine hK _ _ ?_
            clear hK K
            (try simp only [Act.put, List.setIfInBounds_toArray, List.set_cons_zero, List.set_cons_succ])
            refine wpAnyIn_take (i := 12) (v := ?_) rfl rfl (by kernel_rfl) (by kernel_rfl) (by kernel_rfl) (fun _ _ _ h => h) ⟨Or.inl ⟨by rfl, ?_⟩, fun _ => rfl⟩ ?_
            rotate_left
            · (intro wS; simp only [ga, gs, gz]; go_simp; try with_reducible rfl)
            simp only [Act.put, ga, gs, gz, sb, sz, ss]
            refine wpAnyIn_done (by kernel_rfl) ?_ _
            go_wp2_with fail
            go_roundw
            case rel => exact ⟨j + 1, by omega, by omega, by go_num, HJ5, HM5⟩
            case measure => simp [intOf]; omega
          · intro K hK
            dsimp only [ga, gs, gz]
            rw [if_pos (by rfl)]
            refine ⟨fun _ _ => trivial, ?_⟩
            simp only [Fence.wide_round, Oper.semAt_none]
            go_simp
            refine hK _ _ ?_
            clear hK K
            (try simp only [Act.put, List.setIfInBounds_toArray, List.set_cons_zero, List.set_cons_succ])
            refine wpAnyIn_all (rs := [5]) (by kernel_rfl) (by simp) (List.forall_mem_cons.2 ⟨wpOpIn_step rfl ?_, List.forall_mem_nil _⟩)
            intro K hK
            dsimp only [ga, gs, gz]
            rw [if_pos (by rfl)]
            refine ⟨fun _ _ => trivial, ?_⟩
            simp only [Fence.wide_round, Oper.semAt_none]
            go_simp
            refine hK _ _ ?_
            clear hK K
            (try simp only [Act.put, List.setIfInBounds_toArray, List.set_cons_zero, List.set_cons_succ])
            refine wpAnyIn_all (rs := [11]) (by kernel_rfl) (by simp) (List.forall_mem_cons.2 ⟨wpOpIn_step rfl ?_, List.forall_mem_nil _⟩)
            intro K hK
            dsimp only [ga, gs, gz]
            rw [if_pos (by rfl)]
            refine ⟨fun _ _ => trivial, ?_⟩
            simp only [Fence.wide_round, Oper.semAt_none]
            go_simp
            refine HR.out.mono ?_
            rintro e W5 ⟨rfl, hJ5, hm5⟩
            have HJ5 := Lib.hid hJ5
            have HM5 := Lib.hid ((HMR.out.trans (show Mod Bd wr wr.drew from Mod.drew (Mod.refl _ _)) (fun _ _ h => h)).trans hm5 (fun _ _ h => h))
            rw [List.append_assoc, ← HST.out] at HJ5
            clear hJ5 hm5
            refine hK _ _ ?_
            clear hK K
            (try simp only [Act.put, List.setIfInBounds_toArray, List.set_cons_zero, List.set_cons_succ])
            refine wpAnyIn_take (i := 12) (v := ?_) rfl rfl (by kernel_rfl) (by kernel_rfl) (by kernel_rfl) (fun _ _ _ h => h) ⟨Or.inl ⟨by rfl, ?_⟩, fun _ => rfl⟩ ?_
            rotate_left
            · (intro wS; simp only [ga, gs, gz]; go_simp; try with_reducible rfl)
            simp only [Act.put, ga, gs, gz, sb, sz, ss]
            refine wpAnyIn_done (by kernel_rfl) ?_ _
            go_wp2_with fail
            go_roundw
            case rel => exact ⟨j + 1, by omega, by omega, by go_num, HJ5, HM5⟩
            case measure => simp [intOf]; omega
      · intro K hK
        dsimp only [ga, gs, gz]
        rw [if_pos (by rfl)]
        refine ⟨fun _ _ => trivial, ?_⟩
        simp only [Fence.wide_round, Oper.semAt_none]
        go_simp
        refine hK _ _ ?_
        clear hK K
        (try simp only [Act.put, List.setIfInBounds_toArray, List.set_cons_zero, List.set_cons_succ])
        refine wpAnyIn_take (i := 9) (v := ?_) rfl rfl (by kernel_rfl) (by kernel_rfl) (by kernel_rfl) (fun _ _ _ h => h) ⟨Or.inl ⟨by rfl, ?_⟩, fun _ => rfl⟩ ?_
        rotate_left
        · (intro wS; simp only [ga, gs, gz]; go_simp; try with_reducible rfl)
        simp only [Act.put, ga, gs, gz, sb, sz, ss]
        refine wpAnyIn_all (rs := [2, 10]) (by kernel_rfl) (by simp) (List.forall_mem_cons.2 ⟨wpOpIn_step rfl ?_, List.forall_mem_cons.2 ⟨wpOpIn_step rfl ?_, List.forall_mem_nil _⟩⟩)
        · intro K hK
          dsimp only [ga, gs, gz]
          rw [if_pos (by rfl)]
          refine ⟨fun _ _ => trivial, ?_⟩
          simp only [Fence.wide_round, Oper.semAt_none]
          go_simp
          refine hK _ _ ?_
          clear hK K
          (try simp only [Act.put, List.setIfInBounds_toArray, List.set_cons_zero, List.set_cons_succ])
          refine wpAnyIn_take (i := 4) (v := ?_) rfl rfl (by kernel_rfl) (by kernel_rfl) (by kernel_rfl) (fun _ _ _ h => h) ⟨Or.inl ⟨by rfl, ?_⟩, fun _ => rfl⟩ ?_
          rotate_left
          · (intro wS; simp only [ga, gs, gz]; go_simp; try with_reducible rfl)
          simp only [Act.put, ga, gs, gz, sb, sz, ss]
          refine wpAnyIn_all (rs := [5, 10]) (by kernel_rfl) (by simp) (List.forall_mem_cons.2 ⟨wpOpIn_step rfl ?_, List.forall_mem_cons.2 ⟨wpOpIn_step rfl ?_, List.forall_mem_nil _⟩⟩)
          · intro K hK
            dsimp only [ga, gs, gz]
            rw [if_pos (by rfl)]
            refine ⟨fun _ _ => trivial, ?_⟩
            simp only [Fence.wide_round, Oper.semAt_none]
            go_simp
            refine hK _ _ ?_
            clear hK K
            (try simp only [Act.put, List.setIfInBounds_toArray, List.set_cons_zero, List.set_cons_succ])
            refine wpAnyIn_all (rs := [10]) (by kernel_rfl) (by simp) (List.forall_mem_cons.2 ⟨wpOpIn_step rfl ?_, List.forall_mem_nil _⟩)
            intro K hK
            dsimp only [ga, gs, gz]
            rw [if_pos (by rfl)]
            refine ⟨fun _ _ => trivial, ?_⟩
            simp only [Fence.wide_round, Oper.semAt_none]
            go_simp
            refine hK _ _ ?_
            clear hK K
            (try simp only [Act.put, List.setIfInBounds_toArray, List.set_cons_zero, List.set_cons_succ])
            refine wpAnyIn_all (rs := [11]) (by kernel_rfl) (by simp) (List.forall_mem_cons.2 ⟨wpOpIn_step rfl ?_, List.forall_mem_nil _⟩)
            intro K hK
            dsimp only [ga, gs, gz]
            rw [if_pos (by rfl)]
            refine ⟨fun _ _ => trivial, ?_⟩
            simp only [Fence.wide_round, Oper.semAt_none]
            go_simp
            refine HR.out.mono ?_
            rintro e W5 ⟨rfl, hJ5, hm5⟩
            have HJ5 := Lib.hid hJ5
            have HM5 := Lib.hid ((HMR.out.trans (show Mod Bd wr wr.drew from Mod.drew (Mod.refl _ _)) (fun _ _ h => h)).trans hm5 (fun _ _ h => h))
            rw [List.append_assoc, ← HST.out] at HJ5
            clear hJ5 hm5
            refine hK _ _ ?_
            clear hK K
            (try simp only [Act.put, List.setIfInBounds_toArray, List.set_cons_zero, List.set_cons_succ])
            refine wpAnyIn_take (i := 12) (v := ?_) rfl rfl (by kernel_rfl) (by kernel_rfl) (by kernel_rfl) (fun _ _ _ h => h) ⟨Or.inl ⟨by rfl, ?_⟩, fun _ => rfl⟩ ?_
            rotate_left
            · (intro wS; simp only [ga, gs, gz]; go_simp; try with_reducible rfl)
            simp only [Act.put, ga, gs, gz, sb, sz, ss]
            refine wpAnyIn_done (by kernel_rfl) ?_ _
            go_wp2_with fail
            go_roundw
            case rel => exact ⟨j + 1, by omega, by omega, by go_num, HJ5, HM5⟩
            case measure => simp [intOf]; omega
          · intro K hK
            dsimp only [ga, gs, gz]
            rw [if_pos (by rfl)]
            refine ⟨fun _ _ => trivial, ?_⟩
            simp only [Fence.wide_round, Oper.semAt_none]
            go_simp
            refine hK _ _ ?_
            clear hK K
            (try simp only [Act.put, List.setIfInBounds_toArray, List.set_cons_zero, List.set_cons_succ])
            refine wpAnyIn_all (rs := [5]) (by kernel_rfl) (by simp) (List.forall_mem_cons.2 ⟨wpOpIn_step rfl ?_, List.forall_mem_nil _⟩)
            intro K hK
            dsimp only [ga, gs, gz]
            rw [if_pos (by rfl)]
            refine ⟨fun _ _ => trivial, ?_⟩
            simp only [Fence.wide_round, Oper.semAt_none]
            go_simp
            refine hK _ _ ?_
            clear hK K
            (try simp only [Act.put, List.setIfInBounds_toArray, List.set_cons_zero, List.set_cons_succ])
            refine wpAnyIn_all (rs := [11]) (by kernel_rfl) (by simp) (List.forall_mem_cons.2 ⟨wpOpIn_step rfl ?_, List.forall_mem_nil _⟩)
            intro K hK
            dsimp only [ga, gs, gz]
            rw [if_pos (by rfl)]
            refine ⟨fun _ _ => trivial, ?_⟩
            simp only [Fence.wide_round, Oper.semAt_none]
            go_simp
            refine HR.out.mono ?_
            rintro e W5 ⟨rfl, hJ5, hm5⟩
            have HJ5 := Lib.hid hJ5
            have HM5 := Lib.hid ((HMR.out.trans (show Mod Bd wr wr.drew from Mod.drew (Mod.refl _ _)) (fun _ _ h => h)).trans hm5 (fun _ _ h => h))
            rw [List.append_assoc, ← HST.out] at HJ5
            clear hJ5 hm5
            refine hK _ _ ?_
            clear hK K
            (try simp only [Act.put, List.setIfInBounds_toArray, List.set_cons_zero, List.set_cons_succ])
            refine wpAnyIn_take (i := 12) (v := ?_) rfl rfl (by kernel_rfl) (by kernel_rfl) (by kernel_rfl) (fun _ _ _ h => h) ⟨Or.inl ⟨by rfl, ?_⟩, fun _ => rfl⟩ ?_
            rotate_left
            · (intro wS; simp only [ga, gs, gz]; go_simp; try with_reducible rfl)
            simp only [Act.put, ga, gs, gz, sb, sz, ss]
            refine wpAnyIn_done (by kernel_rfl) ?_ _
            go_wp2_with fail
            go_roundw
            case rel => exact ⟨j + 1, by omega, by omega, by go_num, HJ5, HM5⟩
            case measure => simp [intOf]; omega
        · intro K hK
          dsimp only [ga, gs, gz]
          rw [if_pos (by rfl)]
          refine ⟨fun _ _ => trivial, ?_⟩
          simp only [Fence.wide_round, Oper.semAt_none]
          go_simp
          refine hK _ _ ?_
          clear hK K
          (try simp only [Act.put, List.setIfInBounds_toArray, List.set_cons_zero, List.set_cons_succ])
          refine wpAnyIn_all (rs := [2]) (by kernel_rfl) (by simp) (List.forall_mem_cons.2 ⟨wpOpIn_step rfl ?_, List.forall_mem_nil _⟩)
          intro K hK
          dsimp only [ga, gs, gz]
          rw [if_pos (by rfl)]
          refine ⟨fun _ _ => trivial, ?_⟩
          simp only [Fence.wide_round, Oper.semAt_none]
          go_simp
          refine hK _ _ ?_
          clear hK K
          (try simp only [Act.put, List.setIfInBounds_toArray, List.set_cons_zero, List.set_cons_succ])
          refine wpAnyIn_take (i := 4) (v := ?_) rfl rfl (by kernel_rfl) (by kernel_rfl) (by kernel_rfl) (fun _ _ _ h => h) ⟨Or.inl ⟨by rfl, ?_⟩, fun _ => rfl⟩ ?_
          rotate_left
          · (intro wS; simp only [ga, gs, gz]; go_simp; try with_reducible rfl)
          simp only [Act.put, ga, gs, gz, sb, sz, ss]
          refine wpAnyIn_all (rs := [5]) (by kernel_rfl) (by simp) (List.forall_mem_cons.2 ⟨wpOpIn_step rfl ?_, List.forall_mem_nil _⟩)
          intro K hK
          dsimp only [ga, gs, gz]
          rw [if_pos (by rfl)]
          refine ⟨fun _ _ => trivial, ?_⟩
          simp only [Fence.wide_round, Oper.semAt_none]
          go_simp
          refine hK _ _ ?_
          clear hK K
          (try simp only [Act.put, List.setIfInBounds_toArray, List.set_cons_zero, List.set_cons_succ])
          refine wpAnyIn_all (rs := [11]) (by kernel_rfl) (by simp) (List.forall_mem_cons.2 ⟨wpOpIn_step rfl ?_, List.forall_mem_nil _⟩)
          intro K hK
          dsimp only [ga, gs, gz]
          rw [if_pos (by rfl)]
          refine ⟨fun _ _ => trivial, ?_⟩
          simp only [Fence.wide_round, Oper.semAt_none]
          go_simp
          refine HR.out.mono ?_
          rintro e W5 ⟨rfl, hJ5, hm5⟩
          have HJ5 := Lib.hid hJ5
          have HM5 := Lib.hid ((HMR.out.trans (show Mod Bd wr wr.drew from Mod.drew (Mod.refl _ _)) (fun _ _ h => h)).trans hm5 (fun _ _ h => h))
          rw [List.append_assoc, ← HST.out] at HJ5
          clear hJ5 hm5
          refine hK _ _ ?_
          clear hK K
          (try simp only [Act.put, List.setIfInBounds_toArray, List.set_cons_zero, List.set_cons_succ])
          refine wpAnyIn_take (i := 12) (v := ?_) rfl rfl (by kernel_rfl) (by kernel_rfl) (by kernel_rfl) (fun _ _ _ h => h) ⟨Or.inl ⟨by rfl, ?_⟩, fun _ => rfl⟩ ?_
          rotate_left
          · (intro wS; simp only [ga, gs, gz]; go_simp; try with_reducible rfl)
          simp only [Act.put, ga, gs, gz, sb, sz, ss]
          refine wpAnyIn_done (by kernel_rfl) ?_ _
          go_wp2_with fail
          go_roundw
          case rel => exact ⟨j + 1, by omega, by omega, by go_num, HJ5, HM5⟩
          case measure => simp [intOf]; omega
    · have hje : j = q.keys.length := by omega
      have hjM : j = M.length := by have := HML.out; omega
      have HJ2 := HJ1
      rw [hjM, List.take_length] at HJ2
      clear HJ1
      go_wp2_with fail
      refine bodyPost_ret (v := .bool true) (by simp [results, Tryz.f110, go_sem]) rfl ⟨rfl, HJ2.out, ?_⟩
      exact (HM4.out.mono (noB_sub _ _)).trans HMR.out (fun _ _ h => h)
theorem kr_parts {R : Nat → Str → Option Str → Files → Prop} (hR : Bounded R) : ∀ {ks : List Str} {kids : List Nat} {lo : Str} {hi : Option Str} {M : Files}, KidsRep R ks kids lo hi M → ∃ Ms : List Files, Ms.length = kids.length ∧ M = Ms.flatten ∧ (∀ i (h1 : i < kids.length) (h2 : i < Ms.length), ∃ lo' hi', R kids[i] lo' hi' Ms[i]) ∧ ∀ i (h1 : i < ks.length) (h2 : i < Ms.length), ∀ y ∈ Ms[i], bb y.1 ks[i] = true
  | [], [k], lo, hi, M, h => ⟨[M], rfl, by simp, fun i h1 h2 => by
      simp only [List.length_singleton] at h1
      obtain rfl : i = 0 := by omega
      exact ⟨lo, hi, h⟩, fun i h1 => by simp at h1⟩
  | [], [], _, _, _, h => h.elim
  | [], _ :: _ :: _, _, _, _, h => h.elim
  | _ :: _, [], _, _, _, h => h.elim
  | s :: ks, k :: kids, lo, hi, M, h => by
    obtain ⟨M1, M2, rfl, h2, h3, h4, h5⟩ := h
    obtain ⟨Ms, g1, g2, g3, g4⟩ := kr_parts hR h5
    refine ⟨M1 :: Ms, by simp [g1], by simp [g2], fun i hi1 hi2 => ?_, fun i hi1 hi2 y hy => ?_⟩
    · cases i with
      | zero => exact ⟨lo, some s, h4⟩
      | succ i => exact g3 i (by simpa using hi1) (by simpa using hi2)
    · cases i with
      | zero => exact (hR.inb h4 y hy).2
      | succ i => exact g4 i (by simpa using hi1) (by simpa using hi2) y hy
def FP (Ms : List Files) (i0 : Nat) (f : Str) (j : Nat) : Files := (((Ms.take j).drop i0).map fun N => fromOn N f).flatten
theorem FP_step {Ms : List Files} {i0 j : Nat} (f : Str) (hij : i0 ≤ j) (hj : j < Ms.length) : FP Ms i0 f (j + 1) = FP Ms i0 f j ++ fromOn Ms[j] f := by
  unfold FP
  rw [List.take_succ_eq_append_getElem hj, List.drop_append_of_le_length (by rw [List.length_take]; omega)]
  simp
theorem FP_all {Ms : List Files} {i0 : Nat} {f : Str} (h : ∀ i (h : i < Ms.length), i < i0 → fromOn Ms[i] f = []) : fromOn Ms.flatten f = FP Ms i0 f Ms.length := by
  unfold FP
  rw [List.take_length]
  have h1 : (Ms.take i0).flatMap (fun N => fromOn N f) = [] := List.flatMap_eq_nil_iff.2 fun N hN => by
    obtain ⟨i, hi, rfl⟩ := List.mem_iff_getElem.1 hN
    rw [List.length_take] at hi
    rw [List.getElem_take]
    exact h i (by omega) (by omega)
  have h2 : fromOn Ms.flatten f = Ms.flatMap (fun N => fromOn N f) := by
    unfold fromOn
    rw [List.filter_flatten, List.flatMap_def]
  rw [h2]
  conv => lhs; rw [← List.take_append_drop i0 Ms]
  rw [List.flatMap_append, h1, List.nil_append, List.flatMap_def]
theorem FP_rest {Ms : List Files} {i0 : Nat} {f : Str} : ∀ (n j : Nat), i0 ≤ j → j + n = Ms.length → ∃ r, FP Ms i0 f Ms.length = FP Ms i0 f j ++ r
  | 0, j, _, h => ⟨[], by rw [List.append_nil, ← h]; rfl⟩
  | n + 1, j, hij, h => by
    obtain ⟨r, hr⟩ := FP_rest (Ms := Ms) (i0 := i0) (f := f) n (j + 1) (by omega) (by omega)
    have hj : j < Ms.length := by omega
    exact ⟨fromOn Ms[j] f ++ r, by rw [hr, FP_step f hij (by omega), List.append_assoc]⟩

set_option maxRecDepth 100000 in
set_option maxHeartbeats 6400000 in
theorem walk_node (t l p : Nat) (g : Lg) (root : Int) (ly b0 : Nat) (J : List (Str × Str) → World → Prop) (Bd : Nat → Prop) (xs : Files) (f : Str) (d : Nat) (hs : Small g 0) (hT : Tells Tryz.prog ly b0 t l J Bd xs) (HW : Walks t l p g root ly b0 J Bd xs f d) : Walks t l p g root ly b0 J Bd xs f (d + 1) := by
  intro k m lo hi M pre W h hbW hr hJ hxs
  obtain ⟨_, q, hq, hm, h8, hp⟩ := hr
  obtain ⟨Ms, hml, hMs, hreps, hups⟩ := kr_parts (repP_bounded (rdG g) d 4) hp.2.2.2
  have hkn : q.kids.length = q.keys.length + 1 := kr_length hp.2.2.2
  have hsp := (kKid_split f q.keys (kr_keys hp.2.2.2).1).1
  have hkl := kKid_le q.keys f
  have hall := FP_all (Ms := Ms) (i0 := kKid q.keys f) (f := f) fun i hi hlt => by
    unfold fromOn
    refine List.filter_eq_nil_iff.2 fun y hy => ?_
    have h1 := hups i (by omega) hi y hy
    have h2 := hsp q.keys[i] (List.mem_take_iff_getElem.2 ⟨i, by omega, rfl⟩)
    rw [bb_lt_le h1 h2]
    decide
  rw [hMs, hall] at hxs ⊢
  have HLD := Lib.hid (load_calls t l p g root k q W h hq hs)
  have HPG := Lib.hid hq.1
  have HLF := Lib.hid hp.1
  have HTE := Lib.hid hT
  have HTL := Lib.hid h
  have HJ := Lib.hid hJ
  have HXS := Lib.hid hxs
  have HRE := Lib.hid hreps
  have HMLN := Lib.hid hml
  have HWW := Lib.hid HW
  have hk9 : q.kids.length ≤ 9 := by omega
  have hkl2 : kKid q.keys f < q.kids.length := by omega
  unfold pageV at HLD
  rw [HLF.out] at HLD
  clear h hq hp hT hJ hxs hs hall hsp hups hreps hMs hkl hkn HW
  generalize hkg : kKid q.keys f = i0 at *
  have HKG := Lib.hid hkg
  clear hkg
  go_enter Tryz.func110, Tryz.ntmps110
  go_wp2_with fail
  refine HLD.out.mono ?_
  rintro e W2 ⟨kv, vv, cv, rfl, ho2, hm2⟩
  obtain ⟨⟨a1, c1, rfl⟩, ⟨a2, c2, rfl⟩, a3, c3, rfl⟩ := ho2.shapes
  obtain ⟨_, _, e2, hnc, _, _, hg⟩ := own_shape ho2.c
  cases e2
  obtain ⟨cg, rfl⟩ := hg (by omega)
  clear hg
  obtain ⟨W3, hW3⟩ : ∃ W3, W2.alloc (.cells #[.bool false, .slice a1 q.keys.length c1, .slice a2 q.vals.length c2, .slice (some ⟨cg, 0, none⟩) q.kids.length c3] 130) = W3 := ⟨_, rfl⟩
  have hm3 : Mod NoB W2 W3 := by rw [← hW3]; exact (Mod.refl _ _).alloc _
  have hP3 : W3.heap[W2.heap.size]? = some (.cells #[.bool false, .slice a1 q.keys.length c1, .slice a2 q.vals.length c2, .slice (some ⟨cg, 0, none⟩) q.kids.length c3] 130 (0, 0)) := by rw [← hW3]; exact heap_alloc_new _ _
  have HM3 := Lib.hid (hm2.trans hm3 (fun _ _ h => h))
  have HO3 := Lib.hid (ho2.mod hm3)
  obtain ⟨pb, p0, p1, p2, p3, pf⟩ := Page4.facts hP3
  have HP3 := Lib.hid hP3
  have HKC : Hid (∀ X, Mod NoB W3 X → Calls Tryz.prog 107 #[.agg #[.bool false, .slice a1 q.keys.length c1, .slice a2 q.vals.length c2, .slice (some ⟨cg, 0, none⟩) q.kids.length c3], .string ⟨f.toArray⟩] X fun e w' => ∃ u, e = .returned u ∧ (u = .int .i64 i0 ∧ Mod NoB X w')) := fun X hX => by
    have hfc := Kid_calls q _ _ _ f X (HO3.out.mod hX).in1 HPG.out
    unfold pageV at hfc
    rw [HLF.out, HKG.out] at hfc
    exact hfc.mono fun e w' ⟨h1, h2⟩ => ⟨_, h1, rfl, h2⟩
  have hc3 : ¬ c3 = i0 := by omega
  have hsl1 : (i0 : Int) ≤ (q.kids.length : Int) := by omega
  have hsl2 : i0 ≤ q.kids.length := by omega
  clear hm2 ho2 hm3 hP3 HLD
  go_wp2_with fail
  clear hW3
  go_upto_region 11 with fail
  generalize W2.heap.size = P at *
  refine wp_region_front (fun w' => w'.cell? ⟨P, 0, none⟩ = some (.bool false) ∧ w'.cell? ⟨P, 1, none⟩ = some (.slice a1 q.keys.length c1) ∧ w'.cell? ⟨P, 2, none⟩ = some (.slice a2 q.vals.length c2) ∧ w'.cell? ⟨P, 3, none⟩ = some (.slice (some ⟨cg, 0, none⟩) q.kids.length c3)) (notIn []) (by kernel_rfl) ?_ (fun hHeld => ?_)
  · go_keep
  refine tkT 0 (v := ?_) ?_ hHeld ?_
  rotate_left
  · (intro _; simp only [ga, gz]; go_simp; try with_reducible rfl)
  simp only [Act.put, ga, gz, sb, sz, ss]
  refine tkL 1 (v := ?_) ?_ hHeld ?_
  rotate_left
  · (intro _ h; (try dsimp only at h); simp only [ga, gs, gz]; go_simp; try with_reducible rfl)
  simp only [Act.put, ga, gs, gz, sb, sz, ss]
  refine tkL 2 (v := ?_) ?_ hHeld ?_
  rotate_left
  · (intro _ h; (try dsimp only at h); simp only [ga, gs, gz]; go_simp; try with_reducible rfl)
  simp only [Act.put, ga, gs, gz, sb, sz, ss]
  refine tkT 3 (v := ?_) ?_ hHeld ?_
  rotate_left
  · (intro _; simp only [ga, gs, gz]; go_simp; try with_reducible rfl)
  simp only [Act.put, ga, gs, gz, sb, sz, ss]
  refine tkT 7 (v := ?_) ?_ hHeld ?_
  rotate_left
  · (intro _; simp only [ga, gs, gz]; go_simp; try with_reducible rfl)
  simp only [Act.put, ga, gs, gz, sb, sz, ss]
  refine allF [4] (mc (stF ?_) mn)
  intro K hK
  dsimp only [ga, gs, gz]
  rw [if_pos (by rfl)]
  refine wp_fn 107 (fun _ _ => by kernel_rfl) #[.tmp 53, .tmp 54] #[130, 9] rfl (vs := #[.agg #[.bool false, .slice a1 q.keys.length c1, .slice a2 q.vals.length c2, .slice (some ⟨cg, 0, none⟩) q.kids.length c3], .string ⟨f.toArray⟩]) rfl (HKC.out _ QM.out) ?_
  rintro u X4 ⟨rfl, hm4'⟩
  have hm4 : Mod NoB W3 X4 := (show Mod NoB W3 _ from QM.out).trans hm4' (fun _ _ h => h)
  have z0 := keep_cell hm4 pb p0
  have z1 := keep_cell hm4 pb p1
  have z2 := keep_cell hm4 pb p2
  have z3 := keep_cell hm4 pb p3
  have HM4 := Lib.hid (HM3.out.trans hm4 (fun _ _ h => h))
  have HO4 := Lib.hid (HO3.out.mod hm4)
  clear hm4 hm4' p0 p1 p2 p3
  refine hK _ _ (show_held ?_ (fun hHeld => ?_))
  · go_keep
  clear hK K
  simp only [Act.put, List.setIfInBounds_toArray, List.set_cons_zero, List.set_cons_succ]
  refine tkT 5 (v := ?_) ?_ hHeld ?_
  rotate_left
  · (intro _; simp only [ga, gs, gz]; go_simp; try with_reducible rfl)
  simp only [Act.put, ga, gs, gz, sb, sz, ss]
  refine tkT 6 (v := ?_) ?_ hHeld ?_
  rotate_left
  · (intro _; simp only [ga, gs, gz]; go_simp; try with_reducible rfl)
  simp only [Act.put, ga, gs, gz, sb, sz, ss]
  refine wpAnyF_done (by kernel_rfl) ?_ _
  clear HKC HO3 HM3 HP3 pb pf hHeld z0 z1 z2 z3
  go_step
  go_wp2_with fail
  go_loopw [58] (fun i wr => ∃ j : Nat, i0 + j ≤ q.kids.length ∧ i = .int .i64 j ∧ Hid (J (pre ++ FP Ms i0 f (i0 + j)) wr) ∧ Hid (Mod Bd X4 wr)) (fun i _ => q.kids.length - (intOf i).toNat)
  case atStart =>
    refine ⟨0, by omega, rfl, ?_, Mod.refl _ _⟩
    have h0 : FP Ms i0 f (i0 + 0) = [] := by
      unfold FP
      rw [List.drop_eq_nil_of_le (by rw [List.length_take]; omega)]
      rfl
    rw [h0, List.append_nil]
    exact HTE.out.quiet _ _ _ HJ.out HM4.out
  case round =>
    obtain ⟨j, hj, rfl, HJ1, HMR⟩ := hrel
    have hsr := HMR.out.size
    have hs4 := HM4.out.size
    by_cases hlt : i0 + j < q.kids.length
    · have hjM : i0 + j < Ms.length := by have := HMLN.out; omega
      have hks : q.kids[i0 + j]? = some q.kids[i0 + j] := List.getElem?_eq_getElem hlt
      have hoc := own_of_mod HO4.out.c HMR.out (fun r hr e => by have := (HTE.out.below r e).1; have := (HO4.out.c.lt r hr).1; omega)
      obtain ⟨c0, cf, cb⟩ := row_at hoc hks rfl
      obtain ⟨lo', hi', hrep⟩ := HRE.out (i0 + j) hlt hjM
      obtain ⟨post, hxs⟩ := HXS.out
      obtain ⟨r, hr⟩ := FP_rest (Ms := Ms) (i0 := i0) (f := f) (Ms.length - (i0 + j + 1)) (i0 + j + 1) (by omega) (by omega)
      have hstep := FP_step f (i0 := i0) (by omega) hjM
      have hxs2 : xs = (pre ++ FP Ms i0 f (i0 + j)) ++ (fromOn Ms[i0 + j] f ++ (r ++ post)) := by
        rw [hxs, hr, hstep]
        simp only [List.append_assoc]
      have hTr := ((HTL.out.mod HM4.out).upd HMR.out (fun e => (HTE.out.below _ e).2.1 rfl) (fun e => (HTE.out.below _ e).2.2 rfl))
      have HWC := Lib.hid (HWW.out q.kids[i0 + j] 4 lo' hi' Ms[i0 + j] _ wr hTr (by omega) hrep HJ1.out ⟨_, hxs2⟩)
      rw [List.append_assoc, ← hstep] at HWC
      have HMLJ := Lib.hid hjM
      clear hks hoc hrep hxs hr hstep hxs2 hTr hjM
      generalize q.kids[i0 + j] = x at *
      go_wp2_with fail
      refine HWC.out.mono ?_
      rintro e W5 ⟨rfl, hJ5, hm5⟩
      have HJ5 := Lib.hid hJ5
      have HM5 := Lib.hid (HMR.out.trans hm5 (fun _ _ h => h))
      clear hJ5 hm5 HWC c0 cf cb
      go_wp2_with fail
      go_roundw
      case rel => exact ⟨j + 1, by omega, by go_num, HJ5, HM5⟩
      case measure => simp [intOf]; omega
    · have hje : i0 + j = Ms.length := by have := HMLN.out; omega
      have HJ2 := HJ1
      rw [hje] at HJ2
      clear HJ1 hje
      go_wp2_with fail
      refine bodyPost_ret (v := .bool true) (by simp [results, Tryz.f110, go_sem]) rfl ⟨rfl, HJ2.out, ?_⟩
      exact (HM4.out.mono (noB_sub _ _)).trans HMR.out (fun _ _ h => h)

theorem walk_calls (t l p : Nat) (g : Lg) (root : Int) (ly b0 : Nat) (J : List (Str × Str) → World → Prop) (Bd : Nat → Prop) (xs : Files) (f : Str) (hs : Small g 0) (hT : Tells Tryz.prog ly b0 t l J Bd xs) : ∀ d, Walks t l p g root ly b0 J Bd xs f d
  | 0 => walk_leaf t l p g root ly b0 J Bd xs f hs hT
  | d + 1 => walk_node t l p g root ly b0 J Bd xs f d hs hT (walk_calls t l p g root ly b0 J Bd xs f hs hT d)
theorem keep_cellM {G : Nat → Prop} {X W : World} {b o : Nat} {v : Value} (hm : Mod G X W) (hb : b < X.heap.size) (hg : ¬ G b) (h : X.cell? ⟨b, o, none⟩ = some v) : W.cell? ⟨b, o, none⟩ = some v := by
  rw [World.cell?_of_block (w := X) (hm.block b hb hg)]
  exact h
set_option maxRecDepth 100000 in
set_option maxHeartbeats 3200000 in
theorem all1_seq (t l p : Nat) (g : Lg) (root : Int) (M : Files) (f : Str) (bt bf n : Nat) (B : Nat → Prop) (w : World) (h : TL w t l p g root) (hr : TR g root M) (hs : Small g 0)
    (hbt : w.heap[bt]? = some (.cells #[.pointer (some ⟨t, 0, none⟩)] 23 (0, 0))) (hbf : w.heap[bf]? = some (.cells #[.string ⟨f.toArray⟩] 9 (0, 0))) (hB : ∀ q, B q → q < w.heap.size ∧ q ≠ t ∧ q ≠ l ∧ q ≠ bt ∧ q ≠ bf) :
    SeqMod2 Fence.wide n Tryz.prog 109 #[.pointer (some ⟨bt, 0, none⟩), .pointer (some ⟨bf, 0, none⟩)] pairVs (fun _ => False) B (fromOn M f) w := by
  intro ly J W hm hsz hJ hY h0
  refine callsIn_wide.2 ?_
  have hT : Tells Tryz.prog ly (w.heap.size + 2) t l J (fun k => B k ∨ (w.heap.size ≤ k ∧ k < w.heap.size + 2)) (fromOn M f) := ⟨fun s X Y hX hXY => hJ s X Y hX hXY, fun pre x hpost W1 hJ1 => yield_any (hY pre x hpost W1 hJ1), fun q hq => by
    have ht := lt_heap h.tree
    have hl := lt_heap h.log
    rcases hq with hq | hq
    · have := hB q hq
      exact ⟨by omega, this.2.1, this.2.2.1⟩
    · exact ⟨by omega, by omega, by omega⟩⟩
  have hTW := h.mod hm
  have e0 := (hm.block bt (lt_heap hbt) id).trans hbt
  have e1 := (hm.block bf (lt_heap hbf) id).trans hbf
  obtain ⟨tb, t0, t1, tf⟩ := hTW.tree.facts
  have b0 := lt_heap e0
  have b1 := lt_heap e1
  have d0 := cell_heap e0 0
  have d1 := cell_heap e1 0
  simp only [List.getElem?_toArray, List.getElem?_cons_zero] at d0 d1
  have HJ := Lib.hid hJ
  have H0 := Lib.hid h0
  show Calls Tryz.prog 109 #[.func (.yield ly) #[] #[], .pointer (some ⟨bt, 0, none⟩), .pointer (some ⟨bf, 0, none⟩)] W _
  rcases hr with ⟨rfl, rfl⟩ | ⟨d, r, rfl, hrep⟩
  · clear h hT hTW hm hJ hY h0 e0 e1 hbt hbf
    go_enter Tryz.func109, Tryz.ntmps109
    go_wp2_with fail
    go_end0
    exact ⟨⟨_, rfl⟩, H0.out⟩
  · have HW : Hid (∀ X, Mod NoB W X → Calls Tryz.prog 110 #[.pointer (some ⟨t, 0, none⟩), .int .i64 r, .string ⟨f.toArray⟩, .func (.yield ly) #[] #[]] X fun e W' => ∃ u, e = .returned u ∧ (J (fromOn M f) W' ∧ W'.cell? ⟨bt, 0, none⟩ = some (.pointer (some ⟨t, 0, none⟩)) ∧ W'.cell? ⟨bf, 0, none⟩ = some (.string ⟨f.toArray⟩) ∧ W'.cell? ⟨t, 1, none⟩ = some (.int .i64 r))) := fun X hX =>
      (walk_calls t l p g r ly (w.heap.size + 2) J _ (fromOn M f) f hs hT d r 1 [] none M [] X (hTW.mod hX) (Nat.le_trans hsz hX.size) hrep (HJ.out _ _ _ H0.out hX) ⟨[], by simp⟩).mono fun e w' ⟨h1, h2, h3⟩ => ⟨_, h1, h2, keep_cellM h3 (Nat.lt_of_lt_of_le b0 hX.size) (fun e => e.elim (fun e => (hB _ e).2.2.2.1 rfl) (fun e => by have := lt_heap hbt; omega)) (keep_cell hX b0 d0), keep_cellM h3 (Nat.lt_of_lt_of_le b1 hX.size) (fun e => e.elim (fun e => (hB _ e).2.2.2.2 rfl) (fun e => by have := lt_heap hbf; omega)) (keep_cell hX b1 d1), keep_cellM h3 (Nat.lt_of_lt_of_le tb hX.size) (fun e => (hT.below _ e).2.1 rfl) (keep_cell hX tb t1)⟩
    clear h hT hTW hm hJ hY h0 e0 e1 hbt hbf hrep
    go_enter Tryz.func109, Tryz.ntmps109
    go_wp2_with fail
    refine wp_region_front (fun w' => w'.cell? ⟨bt, 0, none⟩ = some (.pointer (some ⟨t, 0, none⟩)) ∧ w'.cell? ⟨bf, 0, none⟩ = some (.string ⟨f.toArray⟩) ∧ w'.cell? ⟨t, 1, none⟩ = some (.int .i64 r)) (notIn []) (by kernel_rfl) ?_ (fun hHeld => ?_)
    · go_keep
    refine tkL 0 (v := ?_) ?_ hHeld ?_
    rotate_left
    · (intro _ h; (try dsimp only at h); simp only [ga, gz]; go_simp; try with_reducible rfl)
    simp only [Act.put, ga, gz, sb, sz, ss]
    refine tkL 1 (v := ?_) ?_ hHeld ?_
    rotate_left
    · (intro _ h; (try dsimp only at h); simp only [ga, gs, gz]; go_simp; try with_reducible rfl)
    simp only [Act.put, ga, gs, gz, sb, sz, ss]
    refine tkT 2 (v := ?_) ?_ hHeld ?_
    rotate_left
    · (intro _; simp only [ga, gs, gz]; go_simp; try with_reducible rfl)
    simp only [Act.put, ga, gs, gz, sb, sz, ss]
    refine tkT 3 (v := ?_) ?_ hHeld ?_
    rotate_left
    · (intro _; simp only [ga, gs, gz]; go_simp; try with_reducible rfl)
    simp only [Act.put, ga, gs, gz, sb, sz, ss]
    refine tkL 4 (v := ?_) ?_ hHeld ?_
    rotate_left
    · (intro _ h; (try dsimp only at h); simp only [ga, gs, gz]; go_simp; try with_reducible rfl)
    simp only [Act.put, ga, gs, gz, sb, sz, ss]
    refine tkL 5 (v := ?_) ?_ hHeld ?_
    rotate_left
    · (intro _ h; (try dsimp only at h); simp only [ga, gs, gz]; go_simp; try with_reducible rfl)
    simp only [Act.put, ga, gs, gz, sb, sz, ss]
    refine tkT 6 (v := ?_) ?_ hHeld ?_
    rotate_left
    · (intro _; simp only [ga, gs, gz]; go_simp; try with_reducible rfl)
    simp only [Act.put, ga, gs, gz, sb, sz, ss]
    refine allF [7] (mc (stF ?_) mn)
    intro K hK
    dsimp only [ga, gs, gz]
    rw [if_pos (by rfl)]
    refine wp_fn 110 (fun _ _ => by kernel_rfl) #[.tmp 13, .tmp 17, .tmp 18, .tmp 19] #[23, 3, 9, 115] rfl (vs := #[.pointer (some ⟨t, 0, none⟩), .int .i64 r, .string ⟨f.toArray⟩, .func (.yield ly) #[] #[]]) rfl (HW.out _ QM.out) ?_
    rintro u W5 ⟨hJ5, z0, z1, z2⟩
    have HJ5 := Lib.hid hJ5
    clear hJ5
    refine hK _ _ (show_held ?_ (fun hHeld => ?_))
    · go_keep
    clear hK K
    simp only [Act.put, List.setIfInBounds_toArray, List.set_cons_zero, List.set_cons_succ]
    refine wpAnyF_done (by kernel_rfl) ?_ _
    go_end0
    exact ⟨⟨_, rfl⟩, HJ5.out⟩

end Go.Proofs.YtgofngilfdnakaaGreat

namespace Go.Proofs.YtgofngilfdnakaaGreat
open Go Go.RowKit
set_option linter.unusedSimpArgs false
attribute [local go_sem] over_cell over_frozen lt_over le_over noB loudUpon ByteArray.mk_append_mk ByteArray.extract_mk Oper.semAt_some

set_option maxRecDepth 100000 in
theorem All_calls (t : Nat) (f : Str) (w : World) : Calls Tryz.prog 72 #[.pointer (some ⟨t, 0, none⟩), .string ⟨f.toArray⟩] w fun e w' =>
    e = .returned (.func (.func 109) #[] #[.pointer (some ⟨w.heap.size, 0, none⟩), .pointer (some ⟨w.heap.size + 1, 0, none⟩)]) ∧ w' = (w.alloc (.cells #[.pointer (some ⟨t, 0, none⟩)] 23)).alloc (.cells #[.string ⟨f.toArray⟩] 9) := by
  go_enter Tryz.func72, Tryz.ntmps72
  go_wp2_with fail
  exact bodyPost_ret (v := .func (.func 109) #[] #[.pointer (some ⟨w.heap.size, 0, none⟩), .pointer (some ⟨w.heap.size + 1, 0, none⟩)]) (by simp [results, Tryz.f72, go_sem]) rfl ⟨rfl, rfl⟩

set_option maxRecDepth 100000 in
set_option maxHeartbeats 6400000 in
theorem has_calls [Away] (t l p : Nat) (g : Lg) (root : Int) (v : Value) (M : Files) (f : Str) (w : World) (h : TL w t l p g root) (hr : TR g root M) (hf : FR w v M) (hM : M.length ≤ 400) (hs : Small g 0) :
    Calls Tryz.prog 19 #[.pointer (some ⟨t, 0, none⟩), v, .string ⟨f.toArray⟩] w fun e w' => e = .returned (.bool true) ∧ Mod NoB w w' := by
  obtain ⟨a1, c1, rfl, _, _⟩ := hf.cells
  obtain ⟨W1, hW1⟩ : ∃ W1, (w.alloc (.cells #[.slice a1 M.length c1] 28)).alloc (.cells #[.bool false] 4) = W1 := ⟨_, rfl⟩
  have hm1 : Mod NoB w W1 := by rw [← hW1]; exact ((Mod.refl _ _).alloc _).alloc _
  have HFI := Lib.hid (rfind_calls _ M f W1 (hf.mod hm1) (by omega))
  have HM1 := Lib.hid hm1
  have HT := Lib.hid (fun X (hX : Mod NoB w X) => h.mod hX)
  have HF := Lib.hid (fun X (hX : Mod NoB w X) => hf.mod hX)
  have HR := Lib.hid hr
  have HS := Lib.hid hs
  have HSO := Lib.hid hr.sorted
  have HML := Lib.hid hM
  have hA1 : W1.heap[w.heap.size]? = some (.cells #[.slice a1 M.length c1] 28 (0, 0)) := by rw [← hW1]; exact heap_alloc_old' _ _ _ (by rw [size_alloc]; omega) (heap_alloc_new _ _)
  have hR1 : W1.heap[w.heap.size + 1]? = some (.cells #[.bool false] 4 (0, 0)) := by rw [← hW1]; exact heap_alloc_at' _ _ _ (by rw [size_alloc])
  have hlt := lt_heap h.tree
  have hll := lt_heap h.log
  have HA1 := Lib.hid hA1
  have HR1 := Lib.hid hR1
  have q0 := lt_heap hA1
  have q1 := cell_heap hA1 0
  simp only [List.getElem?_toArray, List.getElem?_cons_zero] at q1
  clear h hr hf hs hm1 hM hA1 hR1
  refine (callsIn_wide (n := 7)).1 (callsIn_of_wp_marks Tryz.func19 rfl trivial ?_ rfl)
  simp only [Tryz.ntmps19, List.size_toArray, List.length_cons, List.length_nil, Nat.reduceAdd, Nat.reduceSub, Array.replicate_succ, Array.replicate_zero, List.push_toArray, List.append_toArray, List.nil_append, List.cons_append]
  gi_wp2_with fail
  clear hW1
  refine ⟨trivial, (callsIn_wide.2 HFI.out).mono ?_⟩
  rintro e W2 ⟨rfl, hm2⟩
  obtain ⟨W3, hW3⟩ : ∃ W3, W2.alloc (.cells #[.int .i64 (rFind M f)] 3) = W3 := ⟨_, rfl⟩
  have hm3 : Mod NoB W2 W3 := by rw [← hW3]; exact (Mod.refl _ _).alloc _
  have hP3 : W3.heap[W2.heap.size]? = some (.cells #[.int .i64 (rFind M f)] 3 (0, 0)) := by rw [← hW3]; exact heap_alloc_new _ _
  have hA3 := (hm3.block _ (Nat.lt_of_lt_of_le q0 hm2.size) id).trans ((hm2.block _ q0 id).trans HA1.out)
  have hR3 := (hm3.block _ (Nat.lt_of_lt_of_le (lt_heap HR1.out) hm2.size) id).trans ((hm2.block _ (lt_heap HR1.out) id).trans HR1.out)
  have HM3 := Lib.hid ((HM1.out.trans hm2 (fun _ _ h => h)).trans hm3 (fun _ _ h => h))
  have hz2 := hm2.size
  have hz1 := lt_heap HR1.out
  have HA3 := Lib.hid hA3
  have HR3 := Lib.hid hR3
  have HP3 := Lib.hid hP3
  clear q0 q1 hm2 hm3 hA3 hR3 hP3 HFI HA1 HR1 HM1
  gi_wp2_with fail
  refine ⟨trivial, (callsIn_wide.2 (All_calls t f _)).mono ?_⟩
  rintro e W4 ⟨rfl, hW4⟩
  gi_wp2_with fail
  have hz3 : W2.heap.size < W3.heap.size := lt_heap HP3.out
  have hm4 : Mod NoB W3 W4 := by rw [hW4]; exact ((Mod.refl _ _).alloc _).alloc _
  have hB1 : W4.heap[W3.heap.size]? = some (.cells #[.pointer (some ⟨t, 0, none⟩)] 23 (0, 0)) := by rw [hW4]; exact heap_alloc_old' _ _ _ (by rw [size_alloc]; omega) (heap_alloc_new _ _)
  have hB2 : W4.heap[W3.heap.size + 1]? = some (.cells #[.string ⟨f.toArray⟩] 9 (0, 0)) := by rw [hW4]; exact heap_alloc_at' _ _ _ (by rw [size_alloc])
  have hA4 := (hm4.block _ (lt_heap HA3.out) id).trans HA3.out
  have hR4 := (hm4.block _ (lt_heap HR3.out) id).trans HR3.out
  have hP4 := (hm4.block _ (lt_heap HP3.out) id).trans HP3.out
  have hM4 := HM3.out.trans hm4 (fun _ _ h => h)
  have hsz4 := lt_heap hB2
  rw [← hW4]
  have hi0le := rFind_le M f
  generalize hi0 : rFind M f = i0 at *
  generalize rIs M f = bs at *
  generalize hR0 : w.heap.size + 1 = R0 at *
  generalize hA0 : w.heap.size = A0 at *
  generalize W2.heap.size = a at *
  generalize hb1 : W3.heap.size = b1 at *
  have hseq := all1_seq t l p g root M f b1 (b1 + 1) (7 - 1) (fun k => k = a) W4 (HT.out W4 hM4) HR.out HS.out hB1 hB2 (fun q hq => by subst hq; refine ⟨lt_heap hP4, ?_, ?_, ?_, ?_⟩ <;> omega)
  have HDR : Hid (fromOn M f = M.drop i0) := by rw [← hi0]; exact from_drop f HSO.out
  have HA4 := Lib.hid hA4
  have HR4 := Lib.hid hR4
  have HM4 := Lib.hid hM4
  have HF4 := Lib.hid (HF.out W4 hM4)
  have hz5 := lt_heap hR4
  have hz6 := lt_heap hA4
  have hz7 := lt_heap hP4
  clear hW4 hm4 hB1 hB2 hA4 hR4 hM4 HP3 HA3 HR3 HM3 hW3 hi0
  refine wpIn_rangeFunc_mod2 (α := Str × Str) (n := 7) rfl (by omega) (gf := 109) (lb := #[.pointer (some ⟨b1, 0, none⟩), .pointer (some ⟨b1 + 1, 0, none⟩)]) rfl trivial (enters_of Tryz.func109 (by kernel_rfl) rfl)
    (encs := pairVs) (G := fun _ => False) (B := fun k => k = a) (xs := fromOn M f) hseq (fun _ => rfl) (fun k hk => hk.elim) (fun k hk => by omega)
    (fun pre W => Mod (fun k => k = a ∨ (W4.heap.size ≤ k ∧ k < W4.heap.size + 2)) W4 W ∧ W.heap[a]? = some (.cells #[.int .i64 (i0 + pre.length : Nat)] 3 (0, 0))) ?stable ⟨Mod.refl _ _, hP4⟩
    (fun pre x a' W => a' = ⟨#[.pointer (some ⟨t, 0, none⟩), .slice a1 M.length c1, .string ⟨f.toArray⟩, undef, .pointer (some ⟨A0, 0, none⟩), undef, .pointer (some ⟨R0, 0, none⟩), .pointer (some ⟨a, 0, none⟩), .bool bs, .string ⟨x.1.toArray⟩, .string ⟨x.2.toArray⟩, .tuple #[.int .i64 i0, .bool bs], .slice a1 M.length c1, .string ⟨f.toArray⟩, .tuple #[.int .i64 i0, .bool bs], .int .i64 i0, .bool bs, .pointer (some ⟨t, 0, none⟩), .string ⟨f.toArray⟩, .func (.func 109) #[] #[.pointer (some ⟨b1, 0, none⟩), .pointer (some ⟨b1 + 1, 0, none⟩)], .string ⟨x.1.toArray⟩, .string ⟨x.2.toArray⟩, undef, undef, undef, undef, undef, undef, undef, undef, undef, undef, undef, undef, undef, undef, undef, undef, undef, undef, undef, undef, undef, undef, undef, undef, undef, undef, undef, undef], []⟩ ∧ Mod (fun k => k = a ∨ (W4.heap.size ≤ k ∧ k < W4.heap.size + 2)) W4 W ∧ W.heap[a]? = some (.cells #[.int .i64 (i0 + pre.length : Nat)] 3 (0, 0))) ?stable2 ?assign ?body ?done
  case stable =>
    rintro s X Y ⟨h1, h2⟩ hm
    exact ⟨h1.trans hm (fun k _ h => by rcases h with h | h; exact h.elim; exact .inr h), (hm.block a (lt_heap h2) (fun h => by rcases h with h | h; exact h; omega)).trans h2⟩
  case stable2 =>
    rintro pre x a' X Y ⟨h1, h2, h3⟩ hm
    exact ⟨h1, h2.trans hm (fun k _ h => .inr h), (hm.block a (lt_heap h3) (fun h => by omega)).trans h3⟩
  case assign =>
    rintro ly pre x W ⟨h1, h2⟩ hsz
    have HI1 := Lib.hid h1
    have HI2 := Lib.hid h2
    clear h1 h2 hseq
    gi_wp2
    exact ⟨Mod.refl _ _, trivial, HI1.out, HI2.out⟩
  case body =>
    rintro ly pre x a' W ⟨post, hpost⟩ ⟨rfl, h1, h2⟩ hsz
    rw [HDR.out] at hpost
    have hxM : M[i0 + pre.length]? = some x := by
      rw [← List.getElem?_drop, hpost]
      simp
    obtain ⟨hlt2, hxe⟩ := List.getElem?_eq_some_iff.1 hxM
    obtain ⟨_, _, e2, _, hcell⟩ := HF4.out.cells
    cases e2
    obtain ⟨q, rfl, hq, y1, y2⟩ := hcell _ hlt2
    rw [hxe] at y1 y2
    have hqa : q ≠ a := fun e => absurd (own_type HF4.out.1 (q := a) (by rw [← e]; rfl) hP4) (by decide)
    have y1 := keep_cellM h1 hq (fun e => e.elim hqa (fun e => by omega)) y1
    have y2 := keep_cellM h1 hq (fun e => e.elim hqa (fun e => by omega)) y2
    have hAW := (h1.block A0 hz6 (fun e => e.elim (fun e => by omega) (fun e => by omega))).trans HA4.out
    have u0 := cell_heap hAW 0
    have ub := lt_heap hAW
    have v0 := cell_heap h2 0
    have vf := frozen_heap h2
    have vb := lt_heap h2
    have qb : q < W.heap.size := Nat.lt_of_lt_of_le hq h1.size
    simp only [List.getElem?_toArray, List.getElem?_cons_zero] at u0 v0
    have HI1 := Lib.hid h1
    have HI2 := Lib.hid h2
    have HQ := Lib.hid hlt2
    have hml2 := HML.out
    have hJ4 : i0 + pre.length < 400 := by omega
    clear hcell hpost hxM hxe h1 h2 hAW hseq hP4
    generalize hJJ : i0 + pre.length = jj at *
    have HJJ := Lib.hid hJJ
    clear hJJ
    obtain ⟨x1, x2⟩ := x
    gi_wp2
    have hset : Mod (fun k => k = a) W (W.setCell ⟨a, 0, none⟩ (.int .i64 ((jj : Int) + 1))) := (Mod.refl _ _).setCell _ _ (fun _ => rfl)
    refine ⟨hset, HI1.out.trans hset (fun k _ h => .inl h), ?_⟩
    have h3 : (W.setCell ⟨a, 0, none⟩ (.int .i64 ((jj : Int) + 1))).heap[a]? = some (.cells #[.int .i64 ((jj : Int) + 1)] 3 (0, 0)) := by
      rw [heap_setCell_same, HI2.out]
      rfl
    rw [(Array.getElem?_eq_some_iff.1 h3).2]
    rw [show ((i0 : Int) + ((pre.length : Int) + 1)) = (jj : Int) + 1 by have := HJJ.out; omega]
  case done =>
    rintro W ⟨h1, h2⟩ hsz hk
    have hlen : i0 + (fromOn M f).length = M.length := by rw [HDR.out, List.length_drop]; omega
    rw [hlen] at h2
    clear hlen
    have hAW := (h1.block A0 hz6 (fun e => e.elim (fun e => by omega) (fun e => by omega))).trans HA4.out
    have hRW := (h1.block R0 hz5 (fun e => e.elim (fun e => by omega) (fun e => by omega))).trans HR4.out
    have u0 := cell_heap hAW 0
    have ub := lt_heap hAW
    have v0 := cell_heap h2 0
    have vb := lt_heap h2
    have r0 := cell_heap hRW 0
    have rf := frozen_heap hRW
    have rb := lt_heap hRW
    simp only [List.getElem?_toArray, List.getElem?_cons_zero] at u0 v0 r0
    have HI1 := Lib.hid h1
    have HK := Lib.hid hk
    have HRW := Lib.hid hRW
    clear h1 h2 hk hAW hRW hseq hP4
    gi_wp2
    have hne : R0 ≠ W4.heap.size := by omega
    have hKx : (W.setCell ⟨R0, 0, none⟩ (.bool true)).heap[W4.heap.size]? = some (.deferred (some [])) := by
      rw [heap_setCell_ne _ _ _ _ _ hne.symm]
      exact HK.out
    have hmF : Mod (fun k => k = R0 ∨ k = W4.heap.size) W ((W.setCell ⟨R0, 0, none⟩ (.bool true)).putObj W4.heap.size (.deferred none)) := ((Mod.refl (fun k => k = R0 ∨ k = W4.heap.size) W).setCell _ _ (fun _ => .inl rfl)).trans (mod_putObj (F := fun k => k = R0 ∨ k = W4.heap.size) _ _ _ (.inr rfl)) (fun _ _ h => h)
    have hcx : ((W.setCell ⟨R0, 0, none⟩ (.bool true)).putObj W4.heap.size (.deferred none)).cell? ⟨R0, 0, none⟩ = some (.bool true) := by
      have h4 : ((W.setCell ⟨R0, 0, none⟩ (.bool true)).putObj W4.heap.size (.deferred none)).heap[R0]? = some (.cells #[.bool true] 4 (0, 0)) := by
        rw [World.putObj_heap_other hne, heap_setCell_same, HRW.out]
        rfl
      exact cell_heap h4 0
    refine ⟨by simp, .inl ⟨_, _, rfl, run_takeDeferred hKx, ?_⟩⟩
    refine ⟨.bool true, ?_, rfl, ?_⟩
    · simp [results, Tryz.f19, go_sem, hcx]
    · exact (HM4.out.trans HI1.out (fun k hk e => by omega)).trans hmF (fun k hk e => by omega)

end Go.Proofs.YtgofngilfdnakaaGreat
