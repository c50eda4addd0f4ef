/-
  This text proves how a law's state (a disk, a log, blocks of the law's own) goes over a step: no condition, no Go function is spoken of.
-/
import Derived.Test.YtgofngilfdnakaaLaw4c
import Derived.Test.YtgofngilfdnakaaWal4
namespace Go.Proofs.Ytgofngilfdnakaa
open Go Go.RowKit

/-- A disk and a log that have come since w, in a set S and a block l; K: blocks that the law itself holds. -/
structure LD (w wr : World) (K S : Nat → Prop) (p l : Nat) (d : Dk) (g : Lg) : Prop where
  mod : Mod NoB w wr
  disk : Disk wr p S d
  log : LogAt wr l p g
  low : ∀ k, S k → w.heap.size ≤ k ∧ k < wr.heap.size
  l0 : w.heap.size ≤ l
  sl : ¬ S l
  apart : ∀ k, K k → k < wr.heap.size ∧ ¬ S k ∧ k ≠ l

theorem LD.own {w wr wr' : World} {K S G : Nat → Prop} {p l : Nat} {d : Dk} {g : Lg} (h : LD w wr K S p l d g) (hm : Mod G wr wr') (hG : ∀ k, k < wr.heap.size → G k → ¬ S k ∧ k ≠ l ∧ w.heap.size ≤ k) : LD w wr' K S p l d g where
  mod := h.mod.trans (hm.mono (fun k hk hg => (show G k ∧ k < wr.heap.size from ⟨hg, hk⟩))) (fun k hk hg => by have := hG k hg.2 hg.1; omega)
  disk := h.disk.mod (hm.mono (fun k hk hg => (show G k ∧ k < wr.heap.size from ⟨hg, hk⟩))) (fun k hk hg => (hG k hg.2 hg.1).1 hk)
  log := h.log.mod (hm.mono (fun k hk hg => (show G k ∧ k < wr.heap.size from ⟨hg, hk⟩))) (fun hg => (hG l hg.2 hg.1).2.1 rfl)
  low := fun k hk => ⟨(h.low k hk).1, Nat.lt_of_lt_of_le (h.low k hk).2 hm.size⟩
  l0 := h.l0
  sl := h.sl
  apart := fun k hk => ⟨Nat.lt_of_lt_of_le (h.apart k hk).1 hm.size, (h.apart k hk).2⟩
theorem LD.quiet {w wr wr' : World} {K S : Nat → Prop} {p l : Nat} {d : Dk} {g : Lg} (h : LD w wr K S p l d g) (hm : Mod NoB wr wr') : LD w wr' K S p l d g := h.own hm (fun _ _ hg => hg.elim)
theorem LD.logs {w wr wr' : World} {K S : Nat → Prop} {p l : Nat} {d : Dk} {g g' : Lg} (h : LD w wr K S p l d g) (hm : Mod (fun k => k = l) wr wr') (hl : LogAt wr' l p g') : LD w wr' K S p l d g' where
  mod := h.mod.trans hm (fun k hk e => by have := h.l0; omega)
  disk := h.disk.mod hm (fun k hk e => h.sl (e ▸ hk))
  log := hl
  low := fun k hk => ⟨(h.low k hk).1, Nat.lt_of_lt_of_le (h.low k hk).2 hm.size⟩
  l0 := h.l0
  sl := h.sl
  apart := fun k hk => ⟨Nat.lt_of_lt_of_le (h.apart k hk).1 hm.size, (h.apart k hk).2⟩
theorem LD.both {w wr wr' : World} {K S : Nat → Prop} {p l : Nat} {d d' : Dk} {g g' : Lg} (h : LD w wr K S p l d g) (hm : Mod (fun k => S k ∨ k = l) wr wr') (hl : LogAt wr' l p g') (hd : Disk wr' p (Since S wr wr') d') : LD w wr' K (Since S wr wr') p l d' g' where
  mod := h.mod.trans hm (fun k hk e => by have := h.l0; rcases e with e | e; exact absurd (h.low k e).1 (by omega); omega)
  disk := hd
  log := hl
  low := fun k hk => by
    rcases hk with hk | ⟨h1, h2⟩
    · exact ⟨(h.low k hk).1, Nat.lt_of_lt_of_le (h.low k hk).2 hm.size⟩
    · exact ⟨Nat.le_trans h.mod.size h1, h2⟩
  l0 := h.l0
  sl := fun hk => by
    rcases hk with hk | ⟨h1, _⟩
    · exact h.sl hk
    · have := lt_heap h.log; omega
  apart := fun k hk => by
    obtain ⟨h1, h2, h3⟩ := h.apart k hk
    refine ⟨Nat.lt_of_lt_of_le h1 hm.size, fun hs => ?_, h3⟩
    rcases hs with hs | ⟨h4, _⟩
    · exact h2 hs
    · omega
theorem LD.disks {w wr wr' : World} {K S : Nat → Prop} {p l : Nat} {d d' : Dk} {g : Lg} (h : LD w wr K S p l d g) (hm : Mod S wr wr') (hd : Disk wr' p (Since S wr wr') d') : LD w wr' K (Since S wr wr') p l d' g :=
  h.both (hm.mono (fun _ _ e => .inl e)) (h.log.mod hm h.sl) hd
theorem LD.keep {w wr wr' : World} {K S : Nat → Prop} {p l : Nat} {d : Dk} {g : Lg} (h : LD w wr K S p l d g) (hm : Mod (fun k => S k ∨ k = l) wr wr') {k : Nat} (hk : K k) : wr'.heap[k]? = wr.heap[k]? :=
  hm.block k (h.apart k hk).1 (fun e => by rcases e with e | e; exact (h.apart k hk).2.1 e; exact (h.apart k hk).2.2 e)
theorem LD.holds {w wr : World} {K K' S : Nat → Prop} {p l : Nat} {d : Dk} {g : Lg} (h : LD w wr K S p l d g) (hK : ∀ k, K' k → k < wr.heap.size ∧ ¬ S k ∧ k ≠ l) : LD w wr K' S p l d g := ⟨h.mod, h.disk, h.log, h.low, h.l0, h.sl, hK⟩
/-- A block that has come since is neither the disk's nor the log's. -/
theorem LD.fresh {w wr : World} {K S : Nat → Prop} {p l : Nat} {d : Dk} {g : Lg} (h : LD w wr K S p l d g) {k : Nat} (hk : wr.heap.size ≤ k) : ¬ S k ∧ k ≠ l := ⟨fun e => by have := (h.low k e).2; omega, fun e => by have := lt_heap h.log; omega⟩

theorem ownsRow_base {w : World} {base base' e size : Nat} {v : Value} {n : Nat} {xs : List Value} (h : w.ownsRow base e size v n xs) (hb : base' ≤ base) : w.ownsRow base' e size v n xs := by
  obtain ⟨h1, h2⟩ := h
  refine ⟨h1, ?_⟩
  rcases h2 with h2 | ⟨g, cap, cur, hv, hg, r⟩
  · exact .inl h2
  · exact .inr ⟨g, cap, cur, hv, Nat.le_trans hb hg, r⟩
theorem recs_nil {w : World} {base : Nat} {l : List (Int × Str)} (h : l = []) : RecsAt w base (.slice none 0 0) l := by subst h; exact ⟨rfl, .inl ⟨rfl, rfl⟩⟩
/-- One record that was laid. -/
theorem recs_one {w : World} {q base : Nat} {k : Int} {s : Str} (h : w.heap[q]? = some (.cells #[.int .i64 k, .string ⟨s.toArray⟩] 34 (0, 0))) (hb : base ≤ q) : RecsAt w base (.slice (some ⟨q, 0, none⟩) 1 1) [(k, s)] :=
  ⟨rfl, .inr ⟨q, 1, _, rfl, hb, h, Nat.le_refl _, by rw [maxLen_eq]; omega, rfl, rfl⟩⟩

/-- The model in a block. -/
def Box (w : World) (B : Nat) (v1 v2 : Value) (m : Md) : Prop := w.heap[B]? = some (.cells (m.vals v1 v2) 27 (0, 0))
theorem Box.facts {w : World} {B : Nat} {v1 v2 : Value} {m : Md} (h : Box w B v1 v2 m) : B < w.heap.size ∧ w.cell? ⟨B, 0, none⟩ = some v1 ∧ w.cell? ⟨B, 1, none⟩ = some v2 ∧ w.cell? ⟨B, 2, none⟩ = some (.int .i64 m.long) ∧ w.cell? ⟨B, 3, none⟩ = some (.int .i64 m.more) ∧
    w.cell? ⟨B, 4, none⟩ = some (.string ⟨m.root.toArray⟩) ∧ w.cell? ⟨B, 5, none⟩ = some (.int .i64 m.marks) ∧ ∀ i, w.frozen? ⟨B, i, none⟩ = false :=
  ⟨lt_heap h, (cell_heap h 0).trans rfl, (cell_heap h 1).trans rfl, (cell_heap h 2).trans rfl, (cell_heap h 3).trans rfl, (cell_heap h 4).trans rfl, (cell_heap h 5).trans rfl, frozen_heap h⟩

/-- The model is stored into a block. -/
def putBox (w : World) (B : Nat) (v1 v2 : Value) (m : Md) : World := (((((w.setCell ⟨B, 0, none⟩ v1).setCell ⟨B, 1, none⟩ v2).setCell ⟨B, 2, none⟩ (.int .i64 m.long)).setCell ⟨B, 3, none⟩ (.int .i64 m.more)).setCell ⟨B, 4, none⟩ (.string ⟨m.root.toArray⟩)).setCell ⟨B, 5, none⟩ (.int .i64 m.marks)
theorem putBox_mod (w : World) (B : Nat) (v1 v2 : Value) (m : Md) : Mod (fun k => k = B) w (putBox w B v1 v2 m) := by
  unfold putBox
  iterate 6 refine Mod.setCell ?_ _ _ (fun _ => rfl)
  exact Mod.refl _ _
theorem putBox_box {w : World} {B : Nat} {x0 x1 x2 x3 x4 x5 : Value} (v1 v2 : Value) (m : Md) (h : w.heap[B]? = some (.cells #[x0, x1, x2, x3, x4, x5] 27 (0, 0))) : Box (putBox w B v1 v2 m) B v1 v2 m := by
  unfold Box putBox
  simp only [heap_setCell_same, h, Option.map_some, setAt_cells, Md.vals, List.setIfInBounds_toArray, List.set_cons_zero, List.set_cons_succ]

/-! ### disks with just a log's file -/
def dk (r : Int) (c : Nat) (s : Str) : Dk := ⟨[(logName, s)], [(logName, s)], [], r, none, c, false⟩
theorem fit_dk {r : Int} {c : Nat} {s : Str} {N : Nat} (h1 : s.length + c + 2 ≤ N) (h2 : N ≤ 400000000) (h3 : -9223372036854775808 ≤ r) (h4 : r ≤ 9223372036854775807) : Fit (dk r c s) N :=
  ⟨⟨by simp [dk]; omega, by simp [dk, Files.size]; omega, by simp [dk]; omega, by simp [dk, Files.size, sumS]; omega, fun c hc => (by cases hc), by simp only [dk]; omega⟩, h2, h3, h4⟩
theorem dk_size (r : Int) (c : Nat) (s : Str) : (dk r c s).now.size = s.length := by simp [dk, Files.size]
theorem dk_may (r : Int) (c : Nat) (s : Str) : (dk r c s).may false [logName] = 0 := rfl
theorem dk_append (r : Int) (c : Nat) (s t : Str) : (dk r c s).append logName t = if (dk r c s).fits t.length then (0, { dk r (c + 1) (s ++ t) with sure := [(logName, s)], loose := [⟨0, logName, [], t, 0⟩] }) else (31, dk r c s) := by
  unfold Dk.append
  rw [dk_may]
  split
  · contradiction
  · split
    · rename_i h; rw [if_neg (by simpa using h)]
    · rename_i h; rw [if_pos (by simpa using h)]; rfl
theorem dk_commit (r : Int) (c : Nat) (g : Lg) (x : Str) (hx : x.length ≤ 1048576) : g.commit (dk r c g.s) x =
    if (dk r c g.s).fits (g.wait ++ frame (109 :: x)).length then (0, ⟨g.s ++ (g.wait ++ frame (109 :: x)), [], x, g.marks + 1⟩, dk r (c + 1) (g.s ++ (g.wait ++ frame (109 :: x)))) else (31, { g with wait := [] }, dk r c g.s) := by
  unfold Lg.commit
  rw [if_neg (by omega)]
  simp only [dk_append]
  split
  · rfl
  · rfl
theorem dk_open (r : Int) (c : Nat) (s root : Str) (marks : Nat) (h : scan s = (s.length, root, marks)) : openW (dk r c s) = (some ⟨s, [], root, marks⟩, 0, 0, dk r c s) := by
  have h1 : openW (dk r c s) = openB (dk r c s) := rfl
  have h2 : (dk r c s).read logName = (s, 0) := rfl
  rw [h1]
  unfold openB
  rw [if_neg (by rw [h2]; exact fun h => h rfl)]
  simp only [h2, h]
  rw [if_neg (by omega), List.take_length]
  simp only [Int.sub_self]
  rfl

end Go.Proofs.Ytgofngilfdnakaa
