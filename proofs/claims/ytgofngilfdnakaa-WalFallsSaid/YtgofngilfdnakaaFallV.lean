/-
  This text proves how the state of the law WalFalls (a disk, a log, two models in blocks) goes over a step, and lays out its switch as a code of its own: no condition.
-/
import Derived.Test.YtgofngilfdnakaaLawV
import Derived.Test.YtgofngilfdnakaaFallP
import Derived.Test.YtgofngilfdnakaaWalYc
namespace Go.Proofs.Ytgofngilfdnakaa
open Go Go.RowKit

/-- Two models over one log. -/
structure FO (w wr : World) (S : Nat → Prop) (p l C O : Nat) (v1 v2 x1 x2 : Value) (d : Dk) (g : Lg) (m mm : Md) : Prop where
  c : PV w wr S p l C v1 v2 d g m
  o : PV w wr S p l O x1 x2 d g mm
  co : C ≠ O
/-- A block beside them. -/
structure KB (wr : World) (S : Nat → Prop) (l D : Nat) (cs : Array Value) (t : TypeId) : Prop where
  cells : wr.heap[D]? = some (.cells cs t (0, 0))
  ns : ¬ S D
  nl : D ≠ l
section
variable {w wr wr' : World} {S : Nat → Prop} {p l C O D : Nat} {v1 v2 x1 x2 u1 u2 : Value} {d d' : Dk} {g g' : Lg} {m m' mm mm' : Md} {cs : Array Value} {t : TypeId}
theorem box_type {W : World} {X D : Nat} {y1 y2 : Value} {q : Md} {cs : Array Value} {t : TypeId} (h : W.heap[D]? = some (.cells cs t (0, 0))) (hb : Box W X y1 y2 q) (ht : t ≠ 27) : D ≠ X := fun e => by
  subst e
  have h1 := h.symm.trans hb
  cases h1
  exact ht rfl
theorem KB.quiet (h : KB wr S l D cs t) (hm : Mod NoB wr wr') : KB wr' S l D cs t := ⟨(hm.block D (lt_heap h.cells) id).trans h.cells, h.ns, h.nl⟩
theorem KB.both (h : KB wr S l D cs t) (hm : Mod (fun k => S k ∨ k = l) wr wr') : KB wr' (Since S wr wr') l D cs t :=
  ⟨(hm.block D (lt_heap h.cells) (fun e => by rcases e with e | e; exact h.ns e; exact h.nl e)).trans h.cells, fun e => by
    rcases e with e | ⟨e, _⟩
    · exact h.ns e
    · have := lt_heap h.cells; omega, h.nl⟩
theorem KB.aside {X : Nat} (h : KB wr S l D cs t) (hm : Mod (fun k => k = X) wr wr') (hX : D ≠ X) : KB wr' S l D cs t := ⟨(hm.block D (lt_heap h.cells) hX).trans h.cells, h.ns, h.nl⟩
theorem KB.reopened {l2 : Nat} (h : KB wr S l D cs t) (hm : Mod S wr wr') (h0 : wr.heap.size ≤ l2) : KB wr' (fun k => Since S wr wr' k ∧ k ≠ l2) l2 D cs t :=
  ⟨(hm.block D (lt_heap h.cells) h.ns).trans h.cells, fun e => by
    rcases e.1 with e | ⟨e, _⟩
    · exact h.ns e
    · have := lt_heap h.cells; omega, by have := lt_heap h.cells; omega⟩
theorem recs_type {W : World} {b X : Nat} {v : Value} {l : List (Int × Str)} {y1 y2 : Value} {q : Md} (h : RecsAt W b v l) (hb : Box W X y1 y2 q) : v.ownBlock ≠ some X := fun e => by
  obtain ⟨_, ⟨h1, _⟩ | ⟨gg, cap, cur, h1, _, h2, _⟩⟩ := h
  · rw [h1] at e; cases e
  · rw [h1] at e
    simp only [Value.ownBlock, Option.some.injEq] at e
    subst e
    have h3 := h2.symm.trans hb
    cases h3
/-- A model stays where another block is changed. -/
theorem PV.aside {y1 y2 : Value} {q : Md} {d2 : Dk} {g2 : Lg} (h : PV w wr S p l C v1 v2 d g m) (h' : PV w wr S p l O y1 y2 d2 g2 q) (hne : C ≠ O) (hm : Mod (fun k => k = O) wr wr') : PV w wr' S p l C v1 v2 d g m :=
  ⟨h.ld.own hm (fun k _ e => by subst e; exact ⟨(h'.ld.apart _ (.inl rfl)).2.1, (h'.ld.apart _ (.inl rfl)).2.2, h'.c0⟩), (hm.block C (lt_heap h.box) hne).trans h.box,
    ownsRow_mod h.r1 hm (fun k hk e => recs_type h.r1 h'.box (e ▸ hk)), ownsRow_mod h.r2 hm (fun k hk e => recs_type h.r2 h'.box (e ▸ hk)), h.n1, h.n2, h.c0⟩
theorem PV.kept {t : TypeId} {cs : Array Value} (h : PV w wr S p l C v1 v2 d g m) (hk : KB wr S l D cs t) (h0 : w.heap.size ≤ D) (h1 : t ≠ 27) (h2 : t ≠ 34) (hm : Mod (fun k => k = D) wr wr') : PV w wr' S p l C v1 v2 d g m := by
  have hrt : ∀ {v : Value} {ls : List (Int × Str)}, RecsAt wr w.heap.size v ls → ∀ k, v.ownBlock = some k → ¬ k = D := fun {v ls} hr k e1 e2 => by
    subst e2
    obtain ⟨_, ⟨h3, _⟩ | ⟨gg, cap, cur, h3, _, h4, _⟩⟩ := hr
    · rw [h3] at e1; cases e1
    · rw [h3] at e1
      simp only [Value.ownBlock, Option.some.injEq] at e1
      subst e1
      have h5 := h4.symm.trans hk.cells
      cases h5
      exact h2 rfl
  exact ⟨h.ld.own hm (fun k _ e => by subst e; exact ⟨hk.ns, hk.nl, h0⟩), (hm.block C (lt_heap h.box) (box_type hk.cells h.box h1).symm).trans h.box, ownsRow_mod h.r1 hm (hrt h.r1), ownsRow_mod h.r2 hm (hrt h.r2), h.n1, h.n2, h.c0⟩
theorem FO.quiet (h : FO w wr S p l C O v1 v2 x1 x2 d g m mm) (hm : Mod NoB wr wr') : FO w wr' S p l C O v1 v2 x1 x2 d g m mm := ⟨h.c.quiet hm, h.o.quiet hm, h.co⟩
theorem FO.both (h : FO w wr S p l C O v1 v2 x1 x2 d g m mm) (hm : Mod (fun k => S k ∨ k = l) wr wr') (hl : LogAt wr' l p g') (hd : Disk wr' p (Since S wr wr') d') : FO w wr' (Since S wr wr') p l C O v1 v2 x1 x2 d' g' m mm := ⟨h.c.both hm hl hd, h.o.both hm hl hd, h.co⟩
theorem FO.disks (h : FO w wr S p l C O v1 v2 x1 x2 d g m mm) (hm : Mod S wr wr') (hd : Disk wr' p (Since S wr wr') d') : FO w wr' (Since S wr wr') p l C O v1 v2 x1 x2 d' g m mm := ⟨h.c.disks hm hd, h.o.disks hm hd, h.co⟩
theorem KB.disks (h : KB wr S l D cs t) (hm : Mod S wr wr') : KB wr' (Since S wr wr') l D cs t := h.both (hm.mono (fun _ _ e => .inl e))
theorem FO.logs (h : FO w wr S p l C O v1 v2 x1 x2 d g m mm) (hm : Mod (fun k => k = l) wr wr') (hl : LogAt wr' l p g') : FO w wr' (Since S wr wr') p l C O v1 v2 x1 x2 d g' m mm := ⟨h.c.logs hm hl, h.o.logs hm hl, h.co⟩
theorem KB.logs (h : KB wr S l D cs t) (hm : Mod (fun k => k = l) wr wr') : KB wr' (Since S wr wr') l D cs t := h.both (hm.mono (fun _ _ e => .inr e))
theorem FO.reopened {l2 : Nat} (h : FO w wr S p l C O v1 v2 x1 x2 d g m mm) (h0 : wr.heap.size ≤ l2) (hl : LogAt wr' l2 p g') (hm : Mod S wr wr') (hd : Disk wr' p (fun k => Since S wr wr' k ∧ k ≠ l2) d') : FO w wr' (fun k => Since S wr wr' k ∧ k ≠ l2) p l2 C O v1 v2 x1 x2 d' g' m mm :=
  ⟨h.c.reopened h0 hl hm hd, h.o.reopened h0 hl hm hd, h.co⟩
theorem FO.kept {t : TypeId} {cs : Array Value} (h : FO w wr S p l C O v1 v2 x1 x2 d g m mm) (hk : KB wr S l D cs t) (h0 : w.heap.size ≤ D) (h1 : t ≠ 27) (h2 : t ≠ 34) (hm : Mod (fun k => k = D) wr wr') : FO w wr' S p l C O v1 v2 x1 x2 d g m mm :=
  ⟨h.c.kept hk h0 h1 h2 hm, h.o.kept hk h0 h1 h2 hm, h.co⟩
/-- The first model becomes another one. -/
theorem FO.cset {W : World} (h : FO w wr S p l C O v1 v2 x1 x2 d g m mm) (hm : Mod NoB wr W) (hs : Mod (fun k => k = C) W wr') (hc : PV w wr' S p l C u1 u2 d g m') : FO w wr' S p l C O u1 u2 x1 x2 d g m' mm :=
  ⟨hc, (h.o.quiet hm).aside (h.c.quiet hm) h.co.symm hs, h.co⟩
theorem FO.oset {W : World} (h : FO w wr S p l C O v1 v2 x1 x2 d g m mm) (hm : Mod NoB wr W) (hs : Mod (fun k => k = O) W wr') (ho : PV w wr' S p l O u1 u2 d g mm') : FO w wr' S p l C O v1 v2 u1 u2 d g m mm' :=
  ⟨(h.c.quiet hm).aside (h.o.quiet hm) h.co hs, ho, h.co⟩
/-- A model is copied. -/
theorem PV.copied (h : PV w wr S p l C v1 v2 d g m) (h' : PV w wr S p l O x1 x2 d g mm) (hne : C ≠ O) : PV w (putBox wr C x1 x2 mm) S p l C x1 x2 d g mm := by
  have hs := putBox_mod wr C x1 x2 mm
  have ha := h'.aside h hne.symm hs
  have hld := h.ld.own hs (fun k _ e => by subst e; exact ⟨(h.ld.apart _ (.inl rfl)).2.1, (h.ld.apart _ (.inl rfl)).2.2, h.c0⟩)
  refine ⟨hld.holds (fun k hk => ?_), putBox_box _ _ _ h.box, ha.r1, ha.r2, recs_type h'.r1 h.box, recs_type h'.r2 h.box, h.c0⟩
  rcases hk with rfl | hk | hk
  · exact hld.apart _ (.inl rfl)
  · exact ha.ld.apart k (.inr (.inl hk))
  · exact ha.ld.apart k (.inr (.inr hk))
theorem FO.told (h : FO w wr S p l C O v1 v2 x1 x2 d g m mm) : FO w (putBox wr C x1 x2 mm) S p l C O x1 x2 x1 x2 d g mm mm :=
  h.cset (Mod.refl _ _) (putBox_mod _ _ _ _ _) (h.c.copied h.o h.co)
theorem FO.taken (h : FO w wr S p l C O v1 v2 x1 x2 d g m mm) : FO w (putBox wr O v1 v2 m) S p l C O v1 v2 v1 v2 d g m m :=
  h.oset (Mod.refl _ _) (putBox_mod _ _ _ _ _) (h.o.copied h.c h.co.symm)
/-- The other model is made. -/
theorem FO.other {W : World} {u : Value} (h : FO w wr S p l C O v1 v2 x1 x2 d g m mm) (hW : Mod NoB wr W) (hr : RecsAt W wr.heap.size u mm'.sure) (hw : mm'.wait = []) : FO w (putBox W O u (.slice none 0 0) mm') S p l C O v1 v2 u (.slice none 0 0) d g m mm' :=
  h.oset hW (putBox_mod _ _ _ _ _) (h.o.stored hW hr hw)
theorem FO.waited {W : World} {u : Value} {q : List (Int × Str)} (h : FO w wr S p l C O v1 v2 x1 x2 d g m mm) (hW : Mod NoB wr W) (hr : RecsAt W wr.heap.size u q) : FO w (W.setCell ⟨C, 1, none⟩ u) S p l C O v1 u x1 x2 d g { m with wait := q } mm :=
  h.cset hW ((Mod.refl _ _).setCell _ _ (fun _ => rfl)) (h.c.waited hW hr)
theorem FO.mored (n : Nat) (h : FO w wr S p l C O v1 v2 x1 x2 d g m mm) : FO w (wr.setCell ⟨C, 3, none⟩ (.int .i64 n)) S p l C O v1 v2 x1 x2 d g { m with more := n } mm :=
  h.cset (Mod.refl _ _) ((Mod.refl _ _).setCell _ _ (fun _ => rfl)) (h.c.mored n)
theorem FO.rested (h : FO w wr S p l C O v1 v2 x1 x2 d g m mm) : FO w ((((wr.setCell ⟨C, 1, none⟩ (.slice none 0 0)).setCell ⟨C, 3, none⟩ (.int .i64 0)).setCell ⟨O, 1, none⟩ (.slice none 0 0)).setCell ⟨O, 3, none⟩ (.int .i64 0)) S p l C O v1 (.slice none 0 0) x1 (.slice none 0 0) d g m.rest mm.rest := by
  have h1 : FO w ((wr.setCell ⟨C, 1, none⟩ (.slice none 0 0)).setCell ⟨C, 3, none⟩ (.int .i64 0)) S p l C O v1 (.slice none 0 0) x1 x2 d g m.rest mm :=
    h.cset (Mod.refl _ _) (Mod.setCell (Mod.setCell (Mod.refl (fun k => k = C) wr) _ _ (fun _ => rfl)) _ _ (fun _ => rfl)) h.c.rested
  exact h1.oset (Mod.refl _ _) (Mod.setCell (Mod.setCell (Mod.refl (fun k => k = O) _) _ _ (fun _ => rfl)) _ _ (fun _ => rfl)) h1.o.rested
end

/-- The switch of WalFalls. -/
noncomputable def blk4 : Code := ((Try.f8.body.bind (findBlock 4)).getD .skip)

end Go.Proofs.Ytgofngilfdnakaa
