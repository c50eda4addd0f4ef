/-
  This text proves what an append does to a row that is the call's own, of whatever elements, out of whatever slice, also as one step of a region that draws its order: under bounds on lengths; no Go function is spoken of.
-/
import Derived.Test.YtgofngilfdnakaaGreatDiskC
import Derived.Deep.RegionLaw
import Derived.Deep.Upon
import Derived.Maps.AppendAt
namespace Go.Proofs.YtgofngilfdnakaaGreat
open Go Go.RowKit

theorem cell_lt0 {w : World} {b i : Nat} {v : Value} (h : w.cell? ⟨b, i, none⟩ = some v) : b < w.heap.size := by
  rcases Nat.lt_or_ge b w.heap.size with h' | h'
  · exact h'
  · simp [World.cell?, Array.getElem?_eq_none h'] at h
/-- A slice of m elements whose cells read so. -/
def PartAt (w : World) (size : Nat) (v : Value) (m : Nat) (ys : List Value) : Prop :=
  ys.length = m * size ∧ ((v = .slice none 0 0 ∧ m = 0) ∨ ∃ ad c, v = .slice (some ad) m c ∧ m ≤ c ∧ ∀ j u, ys[j]? = some u → w.cell? (ad.add j) = some u)
/-- What an element's type is. -/
structure Elem (P : Program) (t e : TypeId) (size bytes : Nat) : Prop where
  slice : P.underlying t = some (.slice e)
  info : ∃ i z, P.info? e = some i ∧ i.zero = some z ∧ i.size = size ∧ i.bytes = bytes ∧ z.cells.size = size
  pos : 0 < size
theorem PartAt.mod {G : Nat → Prop} {w w' : World} {size m : Nat} {v : Value} {ys : List Value} (h : PartAt w size v m ys) (hm : Mod G w w') (hG : ∀ q, v.ownBlock = some q → ¬ G q) (hv : ∀ ad n c, v = .slice (some ad) n c → ∃ q o, ad = ⟨q, o, none⟩ ∧ (Value.slice (some ad) n c).ownBlock = some q) : PartAt w' size v m ys := by
  refine ⟨h.1, ?_⟩
  rcases h.2 with h2 | ⟨ad, c, rfl, hle, hc⟩
  · exact .inl h2
  · refine .inr ⟨ad, c, rfl, hle, fun j u hj => ?_⟩
    obtain ⟨q, o, rfl, hq⟩ := hv _ _ _ rfl
    have hu := hc j u hj
    rw [Addr.add_mid] at hu ⊢
    rw [World.cell?_of_block (w := w) (hm.block q (cell_lt0 hu) (hG q hq))]
    exact hu
theorem row_part {w : World} {base n size : Nat} {E : TypeId} {v : Value} {xs : List Value} (h : w.ownsRow base E size v n xs) : PartAt w size v n xs := by
  refine ⟨h.1, ?_⟩
  rcases h.2 with ⟨hv, hn⟩ | ⟨g, cap, cur, hv, hb, hg, hnc, hcm, hcs, ht⟩
  · exact .inl ⟨hv, hn⟩
  · refine .inr ⟨_, cap, hv, hnc, fun j u hj => ?_⟩
    rw [Addr.add_mid, Nat.zero_add, cell_heap hg]
    have hl := (List.getElem?_eq_some_iff.1 hj).1
    rw [← ht, List.getElem?_take, if_pos (by have := h.1; omega), Array.getElem?_toList] at hj
    exact hj
/-- The cells from o on, m elements, of a row of the call's own. -/
theorem row_sub {w : World} {base n size g cap : Nat} {E : TypeId} {xs : List Value} (h : w.ownsRow base E size (.slice (some ⟨g, 0, none⟩) n cap) n xs) {o m c : Nat} (hm : o + m ≤ n) (hc : m ≤ c) (a : Addr) (ha : 0 < m → a = ⟨g, o * size, none⟩) :
    PartAt w size (.slice (some a) m c) m ((xs.drop (o * size)).take (m * size)) := by
  have hl := h.1
  have hom : o * size + m * size ≤ n * size := by rw [← Nat.add_mul]; exact Nat.mul_le_mul_right _ hm
  refine ⟨by rw [List.length_take, List.length_drop]; omega, .inr ⟨a, c, rfl, hc, fun j u hj => ?_⟩⟩
  rw [List.getElem?_take] at hj
  split at hj
  · rename_i hjm
    rw [List.getElem?_drop] at hj
    have hm0 : 0 < m := by
      rcases Nat.eq_zero_or_pos m with h0 | h0
      · rw [h0, Nat.zero_mul] at hjm; omega
      · exact h0
    rw [ha hm0, Addr.add_mid]
    rcases h.2 with ⟨hv, _⟩ | ⟨g', cap', cur, hv, hb, hg, hnc, hcm, hcs, ht⟩
    · cases hv
    · cases hv
      rw [cell_heap hg]
      rw [← ht, List.getElem?_take, if_pos (by omega), Array.getElem?_toList] at hj
      exact hj
  · cases hj
theorem own_append {P : Program} {W : World} {base n m size bytes : Nat} {t e : TypeId} {v v2 : Value} {xs ys : List Value} (ty : TypeId) (he : Elem P t e size bytes) (h : W.ownsRow base e size v n xs) (h2 : PartAt W size v2 m ys) (h1 : ∀ u ∈ ys, u.oneCell' = true)
    (hn : n + m ≤ 1000000) (hbt : bytes ≤ 1000) (hb : base ≤ W.heap.size) :
    ∃ v' W', (Builtin.append_ #[t, t] ty #[v, v2]).run P W = .ok v' W' ∧ W'.ownsRow base e size v' (n + m) (xs ++ ys) ∧ W.grownBy W' v.ownBlock ∧ (v'.ownBlock = v.ownBlock ∨ v'.ownBlock = some W.heap.size) := by
  obtain ⟨i, z, hi, hz, hz1, hz2, hz3⟩ := he.info
  have hbb : (n + m) * bytes ≤ 140737488355328 := Nat.le_trans (Nat.mul_le_mul hn hbt) (by decide)
  obtain ⟨hyl, h2⟩ := h2
  have hsh : ∃ a c, v = .slice a n c ∧ n ≤ c := by
    rcases h.2 with ⟨hv, hn0⟩ | ⟨g, cap, cur, hv, _, _, hnc, _⟩
    · exact ⟨none, 0, by rw [hv, hn0], by omega⟩
    · exact ⟨_, cap, hv, hnc⟩
  by_cases hm0 : m = 0
  · subst hm0
    rw [Nat.zero_mul] at hyl
    have hy : ys = [] := List.eq_nil_of_length_eq_zero hyl
    subst hy
    obtain ⟨a, c, rfl, hlc⟩ := hsh
    have hsrc : Src P i.size t v2 0 [] W := by
      rcases h2 with ⟨rfl, _⟩ | ⟨ad, c2, rfl, _, _⟩
      · exact Src.ofNil W he.slice 0
      · exact Src.ofSlice W he.slice ad 0 c2 [] (by simp) (by simp) (by simp)
    refine ⟨_, W, run_append_nothing (P := P) W _ _ ty _ i he.slice hi a _ c hlc _ hsrc, ?_, ⟨rfl, rfl, rfl, Nat.le_refl _, fun _ _ _ => rfl⟩, .inl rfl⟩
    rw [List.append_nil, Nat.add_zero]
    exact h
  · rcases h2 with ⟨_, h0⟩ | ⟨ad, c2, rfl, hmc, hc⟩
    · exact absurd h0 hm0
    · obtain ⟨v', W', hrun, how, hgr, _, hblk⟩ := run_append_own_at (P := P) W base t ty e i z size bytes he.slice hi hz hz1 hz2 hz3 he.pos v n xs h ad m c2 ys hyl hc h1 (by rw [maxLen_eq]; omega) hbb hb
      exact ⟨v', W', hrun, how, hgr, hblk⟩
theorem row_shape {w : World} {base n size : Nat} {E : TypeId} {v : Value} {xs : List Value} (h : w.ownsRow base E size v n xs) : ∃ a c, v = .slice a n c ∧ n ≤ c ∧ ∀ ad, a = some ad → ∃ q, ad = ⟨q, 0, none⟩ ∧ base ≤ q ∧ q < w.heap.size := by
  rcases h.2 with ⟨hv, hn⟩ | ⟨g, cap, cur, hv, hb, hg, hnc, _⟩
  · exact ⟨none, 0, by rw [hv, hn], by omega, fun _ h => by cases h⟩
  · exact ⟨_, cap, hv, hnc, fun ad h => by cases h; exact ⟨g, rfl, hb, lt_heap hg⟩⟩
theorem row_base {w : World} {base base' e size : Nat} {v : Value} {n : Nat} {xs : List Value} (h : w.ownsRow base e size v n xs) (hb : base' ≤ base) : w.ownsRow base' e size v n xs := by
  obtain ⟨h1, h2⟩ := h
  refine ⟨h1, ?_⟩
  rcases h2 with h2 | ⟨g, cap, cur, hv, hg, r⟩
  · exact .inl h2
  · exact .inr ⟨g, cap, cur, hv, Nat.le_trans hb hg, r⟩
/-- .. as one step of a region that draws its order. -/
theorem step_own {P : Program} {ops : Array Oper} {o : Oper} {a : Act} {w : World} {K : Act → World → Prop} {Q : Exit → Act → World → Prop} {E : Prop} (hgd : o.guard = none) (s x : Operand) (t : TypeId)
    (ho : o.op = .call { callee := .builtin .append, args := #[s, x], argTypes := #[t, t] }) {v v2 : Value} (hs : a.eval s = v) (hx : a.eval x = v2) {e : TypeId} {size bytes base n m : Nat} {xs ys : List Value}
    (r : Nat) (zs : List Value) (he : Elem P t e size bytes) (hbt : bytes ≤ 1000) (h : w.ownsRow base e size v n xs) (h2 : PartAt w size v2 m ys) (h1 : ∀ u ∈ ys, u.oneCell' = true) (hn : n + m = r) (hr : r ≤ 1000000) (hz : xs ++ ys = zs) (hb : base ≤ w.heap.size)
    (hK : ∀ b c w', w'.ownsRow base e size (.slice b r c) r zs → w.grownBy w' v.ownBlock → ((Value.slice b r c).ownBlock = v.ownBlock ∨ (Value.slice b r c).ownBlock = some w.heap.size) → K (a.put o.dst (.slice b r c)) w') :
    if Region.wanted o (yielded ops a.tmps) = true then Oper.wp P o a w K Q else E := by
  have hw : Region.wanted o (yielded ops a.tmps) = true := by simp [Region.wanted, hgd]
  rw [if_pos hw]
  subst hn
  subst hz
  obtain ⟨v', w', hrun, h3, h4, h5⟩ := own_append o.type he h h2 h1 hr hbt hb
  obtain ⟨b, c, rfl, _⟩ := row_shape h3
  unfold Oper.wp
  simp [execOp, ho, resolve, invoke, builtin, hs, hx, hrun, Result.andThen]
  exact hK _ _ _ h3 h4 h5
set_option maxRecDepth 100000 in
/-- A call as one step of a region that draws its order. -/
theorem step_fn {P : Program} {ops : Array Oper} {o : Oper} {a : Act} {w : World} {K : Act → World → Prop} {Q : Exit → Act → World → Prop} {E : Prop} (hgd : o.guard = none) (f : FuncId) (hf : ∀ args w, (callFunc f args).run P w = .ok (.enter f args) w) (xs : Array Operand) (ts : Array TypeId)
    (ho : o.op = .call { callee := .value (.func f), args := xs, argTypes := ts }) {vs : Array Value} (hx : xs.toList.map a.eval = vs.toList) {R : Value → World → Prop} (hc : Calls P f vs w fun e w' => ∃ u, e = .returned u ∧ R u w') (hK : ∀ u w', R u w' → K (a.put o.dst u) w') :
    if Region.wanted o (yielded ops a.tmps) = true then Oper.wp P o a w K Q else E := by
  have hw : Region.wanted o (yielded ops a.tmps) = true := by simp [Region.wanted, hgd]
  rw [if_pos hw]
  have hfn : a.eval (.func f) = .func (.func f) #[] #[] := rfl
  have hx2 : xs.map a.eval = vs := by
    apply Array.toList_inj.1
    rw [Array.toList_map, hx]
  unfold Oper.wp
  simp [execOp, ho, resolve, invoke, hx2, hfn, Deferred.ofValue, hf, Oper.upon]
  exact hc.mono fun e w' ⟨u, h1, h2⟩ => by
    subst h1
    exact hK u w' h2
theorem row_empty {w : World} {q base size : Nat} {e : TypeId} (h : w.heap[q]? = some (.cells #[] e (0, 0))) (hb : base ≤ q) : w.ownsRow base e size (.slice (some ⟨q, 0, none⟩) 0 0) 0 [] :=
  ⟨by simp, .inr ⟨q, 0, #[], rfl, hb, h, Nat.le_refl _, by rw [maxLen_eq]; omega, by simp, by simp⟩⟩
theorem part_block {w : World} {q size m : Nat} {cs : Array Value} {e : TypeId} (h : w.heap[q]? = some (.cells cs e (0, 0))) (hl : cs.size = m * size) : PartAt w size (.slice (some ⟨q, 0, none⟩) m m) m cs.toList := by
  refine ⟨by simpa using hl, .inr ⟨_, m, rfl, Nat.le_refl _, fun j u hj => ?_⟩⟩
  rw [Addr.add_mid, Nat.zero_add, cell_heap h]
  simpa using hj
theorem elem_of {P : Program} {t e : TypeId} {z : Value} {n b : Nat} (hs : P.underlying t = some (.slice e)) (h : (P.info? e).map (fun i => (i.zero, i.size, i.bytes)) = some (some z, n, b)) (hz : z.cells.size = n) (hp : 0 < n) : Elem P t e n b := by
  obtain ⟨i, h1, h2, h3, h4⟩ := info_of h
  exact ⟨hs, ⟨i, z, h1, h2, h3, h4, hz⟩, hp⟩
theorem heap_alloc_at' (w : World) (o : Obj) (n : Nat) (h : n = w.heap.size) : (w.alloc o).heap[n]? = some o := by subst h; exact heap_alloc_new _ _
theorem heap_alloc_old' (w : World) (o : Obj) (n : Nat) {x : Option Obj} (h : n < w.heap.size) (hx : w.heap[n]? = x) : (w.alloc o).heap[n]? = x := by rw [heap_alloc_lt w o n h, hx]
theorem grown_at {w w' : World} {row : Option Nat} {q : Nat} {o : Obj} (hg : w.grownBy w' row) (hq : w.heap[q]? = some o) (hne : row ≠ some q) : w'.heap[q]? = some o :=
  ((Mod.grown (F := fun k => row = some k) (Mod.refl _ _) hg (fun _ hq _ => hq)).block q (lt_heap hq) hne).trans hq
theorem hat0 {w : World} {o : Obj} {b : Nat} (h : b = w.heap.size := by first | rfl | simp) : (w.alloc o).heap[b]? = some o := heap_alloc_at' _ _ _ h
theorem hat1 {w : World} {o a : Obj} {b : Nat} (h : b = w.heap.size := by first | rfl | simp) : ((w.alloc o).alloc a).heap[b]? = some o := heap_alloc_old' _ _ _ (by rw [size_alloc]; omega) (hat0 h)
theorem hat2 {w : World} {o a c : Obj} {b : Nat} (h : b = w.heap.size := by first | rfl | simp) : (((w.alloc o).alloc a).alloc c).heap[b]? = some o := heap_alloc_old' _ _ _ (by rw [size_alloc, size_alloc]; omega) (hat1 h)
/-- Allocations, and the tape's turns. -/
class QM (a b : World) : Prop where
  out : Mod NoB a b
instance (a : World) : QM a a := ⟨Mod.refl _ _⟩
instance (a b : World) [h : QM a b] : QM a b.drew := ⟨Mod.drew h.out⟩
instance (a b : World) (o : Obj) [h : QM a b] : QM a (b.alloc o) := ⟨Mod.alloc h.out o⟩

end Go.Proofs.YtgofngilfdnakaaGreat
