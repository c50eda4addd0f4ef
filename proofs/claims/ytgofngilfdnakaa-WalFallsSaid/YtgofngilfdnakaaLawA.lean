/-
  This text proves an append of records as one step of a region that draws its order; no condition.
-/
import Derived.Test.YtgofngilfdnakaaLawT
import Derived.Deep.RegionLaw
namespace Go.Proofs.Ytgofngilfdnakaa
open Go Go.RowKit

theorem step_recs {ops : Array Oper} {o : Oper} {a : Act} {w : World} {K : Act → World → Prop} {Q : Exit → Act → World → Prop} {E : Prop} (hgd : o.guard = none) (s x : Operand)
    (ho : o.op = .call { callee := .builtin .append, args := #[s, x], argTypes := #[25, 25] }) {v v2 : Value} (hs : a.eval s = v) (hx : a.eval x = v2)
    {base base2 : Nat} {l l2 : List (Int × Str)} (h1 : RecsAt w base v l) (h2 : RecsAt w base2 v2 l2) (hn : l.length + l2.length ≤ 1000000) (hb : base ≤ w.heap.size)
    (hK : ∀ b n c w', RecsAt w' base (.slice b n c) (l ++ l2) → w.grownBy w' v.ownBlock → ((Value.slice b n c).ownBlock = v.ownBlock ∨ (Value.slice b n c).ownBlock = some w.heap.size) → K (a.put o.dst (.slice b n c)) w') :
    if Region.wanted o (yielded ops a.tmps) = true then Oper.wp Try.prog o a w K Q else E := by
  have hw : Region.wanted o (yielded ops a.tmps) = true := by simp [Region.wanted, hgd]
  rw [if_pos hw]
  obtain ⟨v', w', hrun, h3, h4, h5⟩ := recs_append o.type h1 h2 hn hb
  obtain ⟨b, n, c, rfl⟩ := h3.shape
  unfold Oper.wp
  simp [execOp, ho, resolve, invoke, builtin, hs, hx, hrun, Result.andThen]
  exact hK _ _ _ _ h3 h4 h5
theorem recs_empty {w : World} {q base : Nat} (h : w.heap[q]? = some (.cells #[] 34 (0, 0))) (hb : base ≤ q) : RecsAt w base (.slice (some ⟨q, 0, none⟩) 0 0) [] :=
  ⟨rfl, .inr ⟨q, 0, #[], rfl, hb, h, Nat.le_refl _, by rw [maxLen_eq]; omega, rfl, rfl⟩⟩
theorem heap_alloc_at (w : World) (o : Obj) (n : Nat) (h : n = w.heap.size) : (w.alloc o).heap[n]? = some o := by subst h; exact heap_alloc_new _ _
theorem heap_alloc_old (w : World) (o : Obj) (n : Nat) {x : Option Obj} (h : n < w.heap.size) (hx : w.heap[n]? = x) : (w.alloc o).heap[n]? = x := by rw [heap_alloc_lt w o n h, hx]
theorem heap_drew_old (w : World) (n : Nat) {x : Option Obj} (hx : w.heap[n]? = x) : w.drew.heap[n]? = x := hx

/-- A disk, and a model in a block C, its records in rows of the law's own. -/
structure RV (w wr : World) (S : Nat → Prop) (p C : Nat) (v1 v2 : Value) (d : Dk) (m : Md) : Prop where
  ds : DS w wr (fun k => k = C ∨ v1.ownBlock = some k ∨ v2.ownBlock = some k) S p d
  box : Box wr C v1 v2 m
  r1 : RecsAt wr w.heap.size v1 m.sure
  r2 : RecsAt wr w.heap.size v2 m.wait
  n1 : v1.ownBlock ≠ some C
  n2 : v2.ownBlock ≠ some C
  c0 : w.heap.size ≤ C
theorem RV.quiet {w wr wr' : World} {S : Nat → Prop} {p C : Nat} {v1 v2 : Value} {d : Dk} {m : Md} (h : RV w wr S p C v1 v2 d m) (hm : Mod NoB wr wr') : RV w wr' S p C v1 v2 d m :=
  ⟨h.ds.quiet hm, (hm.block C (lt_heap h.box) id).trans h.box, ownsRow_mod h.r1 hm (fun _ _ => id), ownsRow_mod h.r2 hm (fun _ _ => id), h.n1, h.n2, h.c0⟩
theorem RV.step {w wr wr' : World} {S : Nat → Prop} {p C : Nat} {v1 v2 u1 u2 : Value} {d : Dk} {m m' : Md} (h : RV w wr S p C v1 v2 d m) (hm : Mod (fun k => k = C) wr wr') (hb : Box wr' C u1 u2 m')
    (h1 : RecsAt wr' w.heap.size u1 m'.sure) (h2 : RecsAt wr' w.heap.size u2 m'.wait) (k1 : ∀ k, u1.ownBlock = some k → v1.ownBlock = some k ∨ v2.ownBlock = some k ∨ wr.heap.size ≤ k) (k2 : ∀ k, u2.ownBlock = some k → v1.ownBlock = some k ∨ v2.ownBlock = some k ∨ wr.heap.size ≤ k) : RV w wr' S p C u1 u2 d m' := by
  have hC := lt_heap h.box
  have hne : ∀ u : Value, (∀ k, u.ownBlock = some k → v1.ownBlock = some k ∨ v2.ownBlock = some k ∨ wr.heap.size ≤ k) → u.ownBlock ≠ some C := fun u hu e => by
    rcases hu C e with e | e | e
    · exact h.n1 e
    · exact h.n2 e
    · omega
  have hds := h.ds.own hm (fun k _ e => by subst e; exact ⟨(h.ds.apart _ (.inl rfl)).2, h.c0⟩)
  refine ⟨hds.holds (fun k hk => ?_), hb, h1, h2, hne u1 k1, hne u2 k2, h.c0⟩
  have hfar : ∀ u : Value, (∀ k, u.ownBlock = some k → v1.ownBlock = some k ∨ v2.ownBlock = some k ∨ wr.heap.size ≤ k) → u.ownBlock = some k → k < wr'.heap.size → k < wr'.heap.size ∧ ¬ S k := fun u hu e hl => by
    rcases hu k e with e | e | e
    · exact hds.apart k (.inr (.inl e))
    · exact hds.apart k (.inr (.inr e))
    · exact ⟨hl, h.ds.fresh e⟩
  rcases hk with rfl | hk | hk
  · exact hds.apart _ (.inl rfl)
  · exact hfar u1 k1 hk (h1.lt k hk).2
  · exact hfar u2 k2 hk (h2.lt k hk).2

/-- What waits is laid into the model. -/
theorem RV.waited {w w2 W : World} {S : Nat → Prop} {p C : Nat} {v1 v2 u : Value} {d : Dk} {m : Md} {l : List (Int × Str)} (h : RV w w2 S p C v1 v2 d m) (hW : Mod NoB w2 W) (hr : RecsAt W w2.heap.size u l) :
    RV w (W.setCell ⟨C, 1, none⟩ u) S p C v1 u d { m with wait := l } := by
  have hC := lt_heap h.box
  have hm : Mod (fun k => k = C) w2 (W.setCell ⟨C, 1, none⟩ u) := (hW.mono (noB_sub _ _)).setCell _ _ (fun _ => rfl)
  have hs : Mod (fun k => k = C) W (W.setCell ⟨C, 1, none⟩ u) := (Mod.refl _ _).setCell _ _ (fun _ => rfl)
  have hbx : W.heap[C]? = some (.cells (m.vals v1 v2) 27 (0, 0)) := (hW.block C hC id).trans h.box
  refine h.step hm ?_ (ownsRow_mod h.r1 hm (fun k hk e => h.n1 (e ▸ hk))) (ownsRow_mod (ownsRow_base hr h.ds.mod.size) hs (fun k hk e => by have := (hr.lt k hk).1; omega)) (fun k hk => .inl hk) (fun k hk => .inr (.inr (hr.lt k hk).1))
  unfold Box
  simp only [heap_setCell_same, hbx, Option.map_some, setAt_cells, Md.vals, List.setIfInBounds_toArray, List.set_cons_zero, List.set_cons_succ]
/-- What is sure is laid into the model. -/
theorem RV.sured {w w2 W : World} {S : Nat → Prop} {p C : Nat} {v1 v2 u : Value} {d : Dk} {m : Md} {l : List (Int × Str)} (h : RV w w2 S p C v1 v2 d m) (hW : Mod NoB w2 W) (hr : RecsAt W w2.heap.size u l) :
    RV w (W.setCell ⟨C, 0, none⟩ u) S p C u v2 d { m with sure := l } := by
  have hC := lt_heap h.box
  have hm : Mod (fun k => k = C) w2 (W.setCell ⟨C, 0, none⟩ u) := (hW.mono (noB_sub _ _)).setCell _ _ (fun _ => rfl)
  have hs : Mod (fun k => k = C) W (W.setCell ⟨C, 0, none⟩ u) := (Mod.refl _ _).setCell _ _ (fun _ => rfl)
  have hbx : W.heap[C]? = some (.cells (m.vals v1 v2) 27 (0, 0)) := (hW.block C hC id).trans h.box
  refine h.step hm ?_ (ownsRow_mod (ownsRow_base hr h.ds.mod.size) hs (fun k hk e => by have := (hr.lt k hk).1; omega)) (ownsRow_mod h.r2 hm (fun k hk e => h.n2 (e ▸ hk))) (fun k hk => .inr (.inr (hr.lt k hk).1)) (fun k hk => .inr (.inl hk))
  unfold Box
  simp only [heap_setCell_same, hbx, Option.map_some, setAt_cells, Md.vals, List.setIfInBounds_toArray, List.set_cons_zero]
/-- A marker is laid into the model. -/
theorem RV.marked {w w2 W : World} {S : Nat → Prop} {p C : Nat} {v1 v2 : Value} {d : Dk} {m : Md} (n k : Nat) (t : Str) (h : RV w w2 S p C v1 v2 d m) (hW : Mod NoB w2 W) :
    RV w (((((W.setCell ⟨C, 2, none⟩ (.int .i64 n)).setCell ⟨C, 1, none⟩ (.slice none 0 0)).setCell ⟨C, 3, none⟩ (.int .i64 0)).setCell ⟨C, 4, none⟩ (.string ⟨t.toArray⟩)).setCell ⟨C, 5, none⟩ (.int .i64 k)) S p C v1 (.slice none 0 0) d ⟨m.sure, [], n, 0, t, k⟩ := by
  have hm : Mod (fun k => k = C) w2 (((((W.setCell ⟨C, 2, none⟩ (.int .i64 n)).setCell ⟨C, 1, none⟩ (.slice none 0 0)).setCell ⟨C, 3, none⟩ (.int .i64 0)).setCell ⟨C, 4, none⟩ (.string ⟨t.toArray⟩)).setCell ⟨C, 5, none⟩ (.int .i64 k)) := by
    iterate 5 refine Mod.setCell ?_ _ _ (fun _ => rfl)
    exact hW.mono (noB_sub _ _)
  have hbx : W.heap[C]? = some (.cells (m.vals v1 v2) 27 (0, 0)) := (hW.block C (lt_heap h.box) id).trans h.box
  refine h.step hm ?_ (ownsRow_mod h.r1 hm (fun k hk e => h.n1 (e ▸ hk))) (recs_nil rfl) (fun k hk => .inl hk) (fun k hk => (by cases hk))
  unfold Box
  simp only [heap_setCell_same, hbx, Option.map_some, setAt_cells, Md.vals, List.setIfInBounds_toArray, List.set_cons_zero, List.set_cons_succ]
  rfl
/-- What waits goes. -/
theorem RV.rested {w w2 : World} {S : Nat → Prop} {p C : Nat} {v1 v2 : Value} {d : Dk} {m : Md} (h : RV w w2 S p C v1 v2 d m) :
    RV w ((w2.setCell ⟨C, 1, none⟩ (.slice none 0 0)).setCell ⟨C, 3, none⟩ (.int .i64 0)) S p C v1 (.slice none 0 0) d m.rest := by
  have hm : Mod (fun k => k = C) w2 ((w2.setCell ⟨C, 1, none⟩ (.slice none 0 0)).setCell ⟨C, 3, none⟩ (.int .i64 0)) := by
    iterate 2 refine Mod.setCell ?_ _ _ (fun _ => rfl)
    exact Mod.refl _ _
  have hbx : w2.heap[C]? = some (.cells (m.vals v1 v2) 27 (0, 0)) := h.box
  refine h.step hm ?_ (ownsRow_mod h.r1 hm (fun k hk e => h.n1 (e ▸ hk))) (recs_nil rfl) (fun k hk => .inl hk) (fun k hk => (by cases hk))
  unfold Box
  simp only [heap_setCell_same, hbx, Option.map_some, setAt_cells, Md.vals, Md.rest, List.setIfInBounds_toArray, List.set_cons_zero, List.set_cons_succ]
  rfl
/-- How much waits is laid into the model. -/
theorem RV.mored {w w2 : World} {S : Nat → Prop} {p C : Nat} {v1 v2 : Value} {d : Dk} {m : Md} (n : Nat) (h : RV w w2 S p C v1 v2 d m) : RV w (w2.setCell ⟨C, 3, none⟩ (.int .i64 n)) S p C v1 v2 d { m with more := n } := by
  have hm : Mod (fun k => k = C) w2 (w2.setCell ⟨C, 3, none⟩ (.int .i64 n)) := (Mod.refl _ _).setCell _ _ (fun _ => rfl)
  have hbx : w2.heap[C]? = some (.cells (m.vals v1 v2) 27 (0, 0)) := h.box
  refine h.step hm ?_ (ownsRow_mod h.r1 hm (fun k hk e => h.n1 (e ▸ hk))) (ownsRow_mod h.r2 hm (fun k hk e => h.n2 (e ▸ hk))) (fun k hk => .inl hk) (fun k hk => .inr (.inl hk))
  unfold Box
  simp only [heap_setCell_same, hbx, Option.map_some, setAt_cells, Md.vals, List.setIfInBounds_toArray, List.set_cons_zero, List.set_cons_succ]

/-- The disk goes on. -/
theorem RV.disk {w wr wr' : World} {S : Nat → Prop} {p C : Nat} {v1 v2 : Value} {d d' : Dk} {m : Md} (h : RV w wr S p C v1 v2 d m) (hm : Mod S wr wr') (hd : Disk wr' p (Since S wr wr') d') : RV w wr' (Since S wr wr') p C v1 v2 d' m :=
  ⟨h.ds.disks hm hd, (h.ds.keep hm (.inl rfl)).trans h.box, ownsRow_mod h.r1 hm (fun k hk => (h.ds.apart k (.inr (.inl hk))).2), ownsRow_mod h.r2 hm (fun k hk => (h.ds.apart k (.inr (.inr hk))).2), h.n1, h.n2, h.c0⟩
/-- The disk is opened: what the model's blocks hold stays. -/
theorem RV.opened {w wr wr' : World} {S : Nat → Prop} {p C l : Nat} {v1 v2 : Value} {d d' : Dk} {m : Md} {g : Lg} (h : RV w wr S p C v1 v2 d m) (h0 : wr.heap.size ≤ l) (hl : LogAt wr' l p g) (hm : Mod S wr wr') (hd : Disk wr' p (fun k => Since S wr wr' k ∧ k ≠ l) d') :
    RV w wr' (fun k => Since S wr wr' k ∧ k ≠ l) p C v1 v2 d' m :=
  ⟨(h.ds.opened h0 hl hm hd).ds, (h.ds.keep hm (.inl rfl)).trans h.box, ownsRow_mod h.r1 hm (fun k hk => (h.ds.apart k (.inr (.inl hk))).2), ownsRow_mod h.r2 hm (fun k hk => (h.ds.apart k (.inr (.inr hk))).2), h.n1, h.n2, h.c0⟩

end Go.Proofs.Ytgofngilfdnakaa
