/-
  This text proves how the state of the law WalPlays (a disk, a log, a model in a block, its records) goes over a step: no condition, no Go function is spoken of.
-/
import Derived.Test.YtgofngilfdnakaaLawA
import Derived.Test.YtgofngilfdnakaaPlayP
namespace Go.Proofs.Ytgofngilfdnakaa
open Go Go.RowKit

structure PV (w wr : World) (S : Nat → Prop) (p l C : Nat) (v1 v2 : Value) (d : Dk) (g : Lg) (m : Md) : Prop where
  ld : LD w wr (fun k => k = C ∨ v1.ownBlock = some k ∨ v2.ownBlock = some k) S p l d g
  box : Box wr C v1 v2 m
  r1 : RecsAt wr w.heap.size v1 m.sure
  r2 : RecsAt wr w.heap.size v2 m.wait
  n1 : v1.ownBlock ≠ some C
  n2 : v2.ownBlock ≠ some C
  c0 : w.heap.size ≤ C
section
variable {w wr wr' : World} {S : Nat → Prop} {p l C : Nat} {v1 v2 u1 u2 : Value} {d d' : Dk} {g g' : Lg} {m m' : Md}
theorem PV.quiet (h : PV w wr S p l C v1 v2 d g m) (hm : Mod NoB wr wr') : PV w wr' S p l C v1 v2 d g m :=
  ⟨h.ld.quiet hm, (hm.block C (lt_heap h.box) id).trans h.box, ownsRow_mod h.r1 hm (fun _ _ => id), ownsRow_mod h.r2 hm (fun _ _ => id), h.n1, h.n2, h.c0⟩
theorem PV.both (h : PV w wr S p l C v1 v2 d g m) (hm : Mod (fun k => S k ∨ k = l) wr wr') (hl : LogAt wr' l p g') (hd : Disk wr' p (Since S wr wr') d') : PV w wr' (Since S wr wr') p l C v1 v2 d' g' m := by
  have hne : ∀ k, (k = C ∨ v1.ownBlock = some k ∨ v2.ownBlock = some k) → ¬ (S k ∨ k = l) := fun _ hk e => by
    have := (h.ld.apart _ hk).2
    rcases e with e | e
    · exact this.1 e
    · exact this.2 e
  exact ⟨h.ld.both hm hl hd, (hm.block C (lt_heap h.box) (hne C (.inl rfl))).trans h.box, ownsRow_mod h.r1 hm (fun k hk => hne k (.inr (.inl hk))), ownsRow_mod h.r2 hm (fun k hk => hne k (.inr (.inr hk))), h.n1, h.n2, h.c0⟩
theorem PV.disks (h : PV w wr S p l C v1 v2 d g m) (hm : Mod S wr wr') (hd : Disk wr' p (Since S wr wr') d') : PV w wr' (Since S wr wr') p l C v1 v2 d' g m :=
  h.both (hm.mono (fun _ _ e => .inl e)) (h.ld.log.mod hm h.ld.sl) hd
theorem PV.logs (h : PV w wr S p l C v1 v2 d g m) (hm : Mod (fun k => k = l) wr wr') (hl : LogAt wr' l p g') : PV w wr' (Since S wr wr') p l C v1 v2 d g' m :=
  h.both (hm.mono (fun _ _ e => .inr e)) hl ((h.ld.disk.mod hm (fun _ hk e => h.ld.sl (e ▸ hk))).mono (fun _ _ e => .inl e))
/-- Another log over the same disk. -/
theorem PV.reopened {l2 : Nat} (h : PV w wr S p l C v1 v2 d g m) (h0 : wr.heap.size ≤ l2) (hl : LogAt wr' l2 p g') (hm : Mod S wr wr') (hd : Disk wr' p (fun k => Since S wr wr' k ∧ k ≠ l2) d') : PV w wr' (fun k => Since S wr wr' k ∧ k ≠ l2) p l2 C v1 v2 d' g' m := by
  have hne : ∀ k, (k = C ∨ v1.ownBlock = some k ∨ v2.ownBlock = some k) → ¬ S k := fun _ hk => (h.ld.apart _ hk).2.1
  exact ⟨h.ld.ds.opened h0 hl hm hd, (hm.block C (lt_heap h.box) (hne C (.inl rfl))).trans h.box, ownsRow_mod h.r1 hm (fun k hk => hne k (.inr (.inl hk))), ownsRow_mod h.r2 hm (fun k hk => hne k (.inr (.inr hk))), h.n1, h.n2, h.c0⟩
theorem PV.step (h : PV w wr S p l C v1 v2 d g m) (hm : Mod (fun k => k = C) wr wr') (hb : Box wr' C u1 u2 m')
    (h1 : RecsAt wr' w.heap.size u1 m'.sure) (h2 : RecsAt wr' w.heap.size u2 m'.wait) (k1 : ∀ k, u1.ownBlock = some k → v1.ownBlock = some k ∨ v2.ownBlock = some k ∨ wr.heap.size ≤ k) (k2 : ∀ k, u2.ownBlock = some k → v1.ownBlock = some k ∨ v2.ownBlock = some k ∨ wr.heap.size ≤ k) : PV w wr' S p l C u1 u2 d g m' := by
  have hC := lt_heap h.box
  have hne : ∀ u : Value, (∀ k, u.ownBlock = some k → v1.ownBlock = some k ∨ v2.ownBlock = some k ∨ wr.heap.size ≤ k) → u.ownBlock ≠ some C := fun u hu e => by
    rcases hu C e with e | e | e
    · exact h.n1 e
    · exact h.n2 e
    · omega
  have hld := h.ld.own hm (fun k _ e => by subst e; exact ⟨(h.ld.apart _ (.inl rfl)).2.1, (h.ld.apart _ (.inl rfl)).2.2, h.c0⟩)
  refine ⟨hld.holds (fun k hk => ?_), hb, h1, h2, hne u1 k1, hne u2 k2, h.c0⟩
  have hfar : ∀ u : Value, (∀ k, u.ownBlock = some k → v1.ownBlock = some k ∨ v2.ownBlock = some k ∨ wr.heap.size ≤ k) → u.ownBlock = some k → k < wr'.heap.size → k < wr'.heap.size ∧ ¬ S k ∧ k ≠ l := fun u hu e hl => by
    rcases hu k e with e | e | e
    · exact hld.apart k (.inr (.inl e))
    · exact hld.apart k (.inr (.inr e))
    · exact ⟨hl, h.ld.fresh e⟩
  rcases hk with rfl | hk | hk
  · exact hld.apart _ (.inl rfl)
  · exact hfar u1 k1 hk (h1.lt k hk).2
  · exact hfar u2 k2 hk (h2.lt k hk).2
/-- What waits is laid into the model. -/
theorem PV.waited {W : World} {u : Value} {q : List (Int × Str)} (h : PV w wr S p l C v1 v2 d g m) (hW : Mod NoB wr W) (hr : RecsAt W wr.heap.size u q) :
    PV w (W.setCell ⟨C, 1, none⟩ u) S p l C v1 u d g { m with wait := q } := by
  have hC := lt_heap h.box
  have hm : Mod (fun k => k = C) wr (W.setCell ⟨C, 1, none⟩ u) := (hW.mono (noB_sub _ _)).setCell _ _ (fun _ => rfl)
  have hs : Mod (fun k => k = C) W (W.setCell ⟨C, 1, none⟩ u) := (Mod.refl _ _).setCell _ _ (fun _ => rfl)
  have hbx : W.heap[C]? = some (.cells (m.vals v1 v2) 27 (0, 0)) := (hW.block C hC id).trans h.box
  refine h.step hm ?_ (ownsRow_mod h.r1 hm (fun k hk e => h.n1 (e ▸ hk))) (ownsRow_mod (ownsRow_base hr h.ld.mod.size) hs (fun k hk e => by have := (hr.lt k hk).1; omega)) (fun k hk => .inl hk) (fun k hk => .inr (.inr (hr.lt k hk).1))
  unfold Box
  simp only [heap_setCell_same, hbx, Option.map_some, setAt_cells, Md.vals, List.setIfInBounds_toArray, List.set_cons_zero, List.set_cons_succ]
/-- What waits goes. -/
theorem PV.rested (h : PV w wr S p l C v1 v2 d g m) : PV w ((wr.setCell ⟨C, 1, none⟩ (.slice none 0 0)).setCell ⟨C, 3, none⟩ (.int .i64 0)) S p l C v1 (.slice none 0 0) d g m.rest := by
  have hm : Mod (fun k => k = C) wr ((wr.setCell ⟨C, 1, none⟩ (.slice none 0 0)).setCell ⟨C, 3, none⟩ (.int .i64 0)) := by
    iterate 2 refine Mod.setCell ?_ _ _ (fun _ => rfl)
    exact Mod.refl _ _
  have hbx : wr.heap[C]? = some (.cells (m.vals v1 v2) 27 (0, 0)) := h.box
  refine h.step hm ?_ (ownsRow_mod h.r1 hm (fun k hk e => h.n1 (e ▸ hk))) (recs_nil rfl) (fun k hk => .inl hk) (fun k hk => (by cases hk))
  unfold Box
  simp only [heap_setCell_same, hbx, Option.map_some, setAt_cells, Md.vals, Md.rest, List.setIfInBounds_toArray, List.set_cons_zero, List.set_cons_succ]
  rfl
/-- How much waits is laid into the model. -/
theorem PV.mored (n : Nat) (h : PV w wr S p l C v1 v2 d g m) : PV w (wr.setCell ⟨C, 3, none⟩ (.int .i64 n)) S p l C v1 v2 d g { m with more := n } := by
  have hm : Mod (fun k => k = C) wr (wr.setCell ⟨C, 3, none⟩ (.int .i64 n)) := (Mod.refl _ _).setCell _ _ (fun _ => rfl)
  have hbx : wr.heap[C]? = some (.cells (m.vals v1 v2) 27 (0, 0)) := h.box
  refine h.step hm ?_ (ownsRow_mod h.r1 hm (fun k hk e => h.n1 (e ▸ hk))) (ownsRow_mod h.r2 hm (fun k hk e => h.n2 (e ▸ hk))) (fun k hk => .inl hk) (fun k hk => .inr (.inl hk))
  unfold Box
  simp only [heap_setCell_same, hbx, Option.map_some, setAt_cells, Md.vals, List.setIfInBounds_toArray, List.set_cons_zero, List.set_cons_succ]
/-- A model whose records were laid since is stored. -/
theorem PV.stored {W : World} {u : Value} (h : PV w wr S p l C v1 v2 d g m) (hW : Mod NoB wr W) (hr : RecsAt W wr.heap.size u m'.sure) (hw : m'.wait = []) :
    PV w (putBox W C u (.slice none 0 0) m') S p l C u (.slice none 0 0) d g m' := by
  have hC := lt_heap h.box
  have hs := putBox_mod W C u (.slice none 0 0) m'
  have hm : Mod (fun k => k = C) wr (putBox W C u (.slice none 0 0) m') := (hW.mono (noB_sub _ _)).trans hs (fun _ _ e => e)
  have hbx : W.heap[C]? = some (.cells (m.vals v1 v2) 27 (0, 0)) := (hW.block C hC id).trans h.box
  exact h.step hm (putBox_box _ _ _ hbx) (ownsRow_mod (ownsRow_base hr h.ld.mod.size) hs (fun k hk e => by have := (hr.lt k hk).1; omega)) (recs_nil hw) (fun k hk => .inr (.inr (hr.lt k hk).1)) (fun k hk => (by cases hk))
end

set_option maxRecDepth 100000 in
/-- A call that only reads, as one step of a region that draws its order. -/
theorem step_call {ops : Array Oper} {o : Oper} {a : Act} {w : World} {K : Act → World → Prop} {Q : Exit → Act → World → Prop} {E : Prop} (hgd : o.guard = none) (f : FuncId) (hf : ∀ args, (callFunc f args).run Try.prog w = .ok (.enter f args) w) (x : Operand) (t : TypeId)
    (ho : o.op = .call { callee := .value (.func f), args := #[x], argTypes := #[t] }) {v u : Value} (hx : a.eval x = v) (hc : Calls Try.prog f #[v] w fun e w' => e = .returned u ∧ w = w') (hK : K (a.put o.dst u) w) :
    if Region.wanted o (yielded ops a.tmps) = true then Oper.wp Try.prog o a w K Q else E := by
  have hw : Region.wanted o (yielded ops a.tmps) = true := by simp [Region.wanted, hgd]
  rw [if_pos hw]
  refine wp_of_loud (C := fun w' => w' = w) (v := u) ?_ (fun w' e => e ▸ hK)
  unfold loudAt
  have hfn : a.eval (.func f) = .func (.func f) #[] #[] := rfl
  simp [execOp, ho, resolve, invoke, hx, hfn, loudUpon, Deferred.ofValue, hf]
  exact hc.mono fun e w' h => ⟨h.1, h.2.symm⟩
theorem few_enters (args : Array Value) (w : World) : (callFunc 19 args).run Try.prog w = .ok (.enter 19 args) w := by kernel_rfl

/-- What is done, as the law has it. -/
structure ActD where
  kind : Int
  n : Int
  s : Str
  lv : Value
  ls : List Str
  f0 : Int
  f1 : Int
  f2 : Int
def ActsIn (w : World) (v : Value) (l : List ActD) : Prop := ∃ a cap, v = .slice a l.length cap ∧ l.length ≤ cap ∧ cap ≤ maxLen ∧ ∀ i, (hi : i < l.length) → ∃ b o, a = some ⟨b, o, none⟩ ∧ b < w.heap.size ∧
  w.cell? ⟨b, o + i * 7, none⟩ = some (.int .i64 l[i].kind) ∧ w.cell? ⟨b, o + i * 7 + 1, none⟩ = some (.int .i64 l[i].n) ∧ w.cell? ⟨b, o + i * 7 + 2, none⟩ = some (.string ⟨l[i].s.toArray⟩) ∧ w.cell? ⟨b, o + i * 7 + 3, none⟩ = some l[i].lv ∧
  w.cell? ⟨b, o + i * 7 + 4, none⟩ = some (.int .i64 l[i].f0) ∧ w.cell? ⟨b, o + i * 7 + 5, none⟩ = some (.int .i64 l[i].f1) ∧ w.cell? ⟨b, o + i * 7 + 6, none⟩ = some (.int .i64 l[i].f2) ∧
  StrsIn w l[i].lv l[i].ls ∧ (∀ s ∈ l[i].ls, s.length ≤ 9223372036854775807) ∧ l[i].s.length ≤ 9223372036854775807 ∧ -9223372036854775808 ≤ l[i].n ∧ l[i].n ≤ 9223372036854775807

end Go.Proofs.Ytgofngilfdnakaa
