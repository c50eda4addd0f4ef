/-
  This text proves how a law's state that is a disk alone goes over a step, and that a row of texts of the call's own can be read: no condition, no Go function is spoken of.
-/
import Derived.Test.YtgofngilfdnakaaReadP
namespace Go.Proofs.Ytgofngilfdnakaa
open Go Go.RowKit

/-- A disk that has come since w, in a set S; K: blocks that the law itself holds. -/
structure DS (w wr : World) (K S : Nat → Prop) (p : Nat) (d : Dk) : Prop where
  mod : Mod NoB w wr
  disk : Disk wr p S d
  low : ∀ k, S k → w.heap.size ≤ k ∧ k < wr.heap.size
  apart : ∀ k, K k → k < wr.heap.size ∧ ¬ S k
theorem DS.own {w wr wr' : World} {K S G : Nat → Prop} {p : Nat} {d : Dk} (h : DS w wr K S p d) (hm : Mod G wr wr') (hG : ∀ k, k < wr.heap.size → G k → ¬ S k ∧ w.heap.size ≤ k) : DS w wr' K S p d where
  mod := h.mod.trans (hm.mono (fun k hk hg => (show G k ∧ k < wr.heap.size from ⟨hg, hk⟩))) (fun k hk hg => by have := hG k hg.2 hg.1; omega)
  disk := h.disk.mod (hm.mono (fun k hk hg => (show G k ∧ k < wr.heap.size from ⟨hg, hk⟩))) (fun k hk hg => (hG k hg.2 hg.1).1 hk)
  low := fun k hk => ⟨(h.low k hk).1, Nat.lt_of_lt_of_le (h.low k hk).2 hm.size⟩
  apart := fun k hk => ⟨Nat.lt_of_lt_of_le (h.apart k hk).1 hm.size, (h.apart k hk).2⟩
theorem DS.quiet {w wr wr' : World} {K S : Nat → Prop} {p : Nat} {d : Dk} (h : DS w wr K S p d) (hm : Mod NoB wr wr') : DS w wr' K S p d := h.own hm (fun _ _ hg => hg.elim)
theorem DS.disks {w wr wr' : World} {K S : Nat → Prop} {p : Nat} {d d' : Dk} (h : DS w wr K S p d) (hm : Mod S wr wr') (hd : Disk wr' p (Since S wr wr') d') : DS w wr' K (Since S wr wr') p d' where
  mod := h.mod.trans hm (fun k hk e => by have := (h.low k e).1; omega)
  disk := hd
  low := fun k hk => by
    rcases hk with hk | ⟨h1, h2⟩
    · exact ⟨(h.low k hk).1, Nat.lt_of_lt_of_le (h.low k hk).2 hm.size⟩
    · exact ⟨Nat.le_trans h.mod.size h1, h2⟩
  apart := fun k hk => by
    obtain ⟨h1, h2⟩ := h.apart k hk
    refine ⟨Nat.lt_of_lt_of_le h1 hm.size, fun hs => ?_⟩
    rcases hs with hs | ⟨h4, _⟩
    · exact h2 hs
    · omega
theorem DS.keep {w wr wr' : World} {K S : Nat → Prop} {p : Nat} {d : Dk} (h : DS w wr K S p d) (hm : Mod S wr wr') {k : Nat} (hk : K k) : wr'.heap[k]? = wr.heap[k]? :=
  hm.block k (h.apart k hk).1 (h.apart k hk).2
theorem DS.holds {w wr : World} {K K' S : Nat → Prop} {p : Nat} {d : Dk} (h : DS w wr K S p d) (hK : ∀ k, K' k → k < wr.heap.size ∧ ¬ S k) : DS w wr K' S p d := ⟨h.mod, h.disk, h.low, hK⟩
theorem DS.fresh {w wr : World} {K S : Nat → Prop} {p : Nat} {d : Dk} (h : DS w wr K S p d) {k : Nat} (hk : wr.heap.size ≤ k) : ¬ S k := fun e => by have := (h.low k e).2; omega
/-- A new disk. -/
theorem DS.made {w w' : World} {p : Nat} (hm : Mod NoB w w') (hd : Disk w' p (Since NoB w w') Dk.fresh) : DS w w' (fun _ => False) (Since NoB w w') p Dk.fresh :=
  ⟨hm, hd, fun k hk => by rcases hk with hk | hk; exact hk.elim; exact hk, fun k hk => hk.elim⟩
/-- The disk is opened. -/
theorem DS.opened {w wr wr' : World} {K S : Nat → Prop} {p l : Nat} {d d' : Dk} {g : Lg} (h : DS w wr K S p d) (h0 : wr.heap.size ≤ l) (hl : LogAt wr' l p g) (hm : Mod S wr wr') (hd : Disk wr' p (fun k => Since S wr wr' k ∧ k ≠ l) d') : LD w wr' K (fun k => Since S wr wr' k ∧ k ≠ l) p l d' g where
  mod := h.mod.trans hm (fun k hk e => by have := (h.low k e).1; omega)
  disk := hd
  log := hl
  low := fun k hk => by
    rcases hk.1 with hk | ⟨h1, h2⟩
    · exact ⟨(h.low k hk).1, Nat.lt_of_lt_of_le (h.low k hk).2 hm.size⟩
    · exact ⟨Nat.le_trans h.mod.size h1, h2⟩
  l0 := Nat.le_trans h.mod.size h0
  sl := fun hk => hk.2 rfl
  apart := fun k hk => by
    obtain ⟨h1, h2⟩ := h.apart k hk
    refine ⟨Nat.lt_of_lt_of_le h1 hm.size, fun hs => ?_, by omega⟩
    rcases hs.1 with hs | ⟨h4, _⟩
    · exact h2 hs
    · omega
theorem LD.ds {w wr : World} {K S : Nat → Prop} {p l : Nat} {d : Dk} {g : Lg} (h : LD w wr K S p l d g) : DS w wr K S p d := ⟨h.mod, h.disk, h.low, fun k hk => ⟨(h.apart k hk).1, (h.apart k hk).2.1⟩⟩

/-- A row of texts of the call's own is one that can be read. -/
theorem owns_strs {w : World} {base : Nat} {v : Value} {l : List Str} (h : w.ownsRow base 9 1 v l.length (strCells l)) : StrsIn w v l := by
  rcases h.2 with ⟨hv, hn⟩ | ⟨g, cap, cur, hv, _, hg, hnc, hcm, hcs, ht⟩
  · exact ⟨none, 0, by rw [hv, hn], by omega, Nat.zero_le _, fun i hi => by omega⟩
  · refine ⟨_, cap, hv, hnc, hcm, fun i hi => ⟨g, 0, rfl, lt_heap hg, ?_⟩⟩
    have h1 : (strCells l)[i]? = some (.string ⟨(l[i]?.getD []).toArray⟩) := by
      rw [strCells, List.getElem?_map, List.getElem?_eq_getElem hi]; rfl
    rw [← ht, List.getElem?_take, if_pos (by omega), Array.getElem?_toList] at h1
    rw [Nat.zero_add, cell_heap hg]
    exact h1
theorem StrsIn.mod {w w' : World} {v : Value} {l : List Str} (h : StrsIn w v l) (hm : Mod NoB w w') : StrsIn w' v l := by
  obtain ⟨a, cap, h1, h2, h3, h4⟩ := h
  refine ⟨a, cap, h1, h2, h3, fun i hi => ?_⟩
  obtain ⟨b, o, e, hb, hc⟩ := h4 i hi
  exact ⟨b, o, e, Nat.lt_of_lt_of_le hb hm.size, (World.cell?_of_block (w := w) (hm.block b hb id)).trans hc⟩

end Go.Proofs.Ytgofngilfdnakaa
