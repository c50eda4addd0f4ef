/-
  This text proves general facts about rows of one cell an element: read through a slice, cut, stored into, appended to, one put in, one taken out; no condition but bounds on lengths; no Go function is spoken of.
-/
import Derived.Test.YtgofngilfdnakaaGreatMem
import Derived.Deep.AppendSrc
import Derived.Maps.AppendAt
import Derived.Laws.OwnMore
import Derived.Deep.Upon
namespace Go.Proofs.YtgofngilfdnakaaGreat
open Go Go.RowKit

theorem maxLenIs : maxLen = 9223372036854775807 := rfl
/-- Values that a slice shows. -/
def In1 (w : World) (v : Value) (xs : List Value) : Prop := ∃ a cap, v = .slice a xs.length cap ∧ xs.length ≤ cap ∧ cap ≤ maxLen ∧ ∀ i, (hi : i < xs.length) → ∃ b o, a = some ⟨b, o, none⟩ ∧ b < w.heap.size ∧ w.cell? ⟨b, o + i, none⟩ = some xs[i]
theorem In1.nil (w : World) : In1 w (.slice none 0 0) [] := ⟨none, 0, rfl, Nat.le_refl _, by rw [maxLenIs]; omega, fun i hi => by simp at hi⟩
theorem In1.upd {G : Nat → Prop} {w w' : World} {v : Value} {xs : List Value} (h : In1 w v xs) (hm : Mod G w w') (hG : ∀ a n c, v = .slice (some a) n c → 0 < n → ¬ G a.block) : In1 w' v xs := by
  obtain ⟨a, cap, rfl, h1, h2, h3⟩ := h
  refine ⟨a, cap, rfl, h1, h2, fun i hi => ?_⟩
  obtain ⟨b, o, rfl, hb, hc⟩ := h3 i hi
  exact ⟨b, o, rfl, Nat.lt_of_lt_of_le hb hm.size, by rw [World.cell?_of_block (w := w) (hm.block b hb (hG _ _ _ rfl (by omega)))]; exact hc⟩
theorem In1.mod {w w' : World} {v : Value} {xs : List Value} (h : In1 w v xs) (hm : Mod NoB w w') : In1 w' v xs := h.upd hm (fun _ _ _ _ _ => id)
/-- Where all that was written lies behind the world it was read in. -/
theorem In1.behind {w w' : World} {v : Value} {xs : List Value} {B : Nat} (h : In1 w v xs) (hB : w.heap.size ≤ B) (hm : Mod (fun k => B ≤ k) w w') : In1 w' v xs := by
  obtain ⟨a, cap, rfl, h1, h2, h3⟩ := h
  refine ⟨a, cap, rfl, h1, h2, fun i hi => ?_⟩
  obtain ⟨b, o, rfl, hb, hc⟩ := h3 i hi
  exact ⟨b, o, rfl, Nat.lt_of_lt_of_le hb hm.size, by rw [World.cell?_of_block (w := w) (hm.block b hb (by omega))]; exact hc⟩
theorem In1.take {w : World} {a : Option Addr} {n c : Nat} {xs : List Value} (h : In1 w (.slice a n c) xs) (m : Nat) (hm : m ≤ n) : In1 w (.slice a m c) (xs.take m) := by
  obtain ⟨a', cap, he, h1, h2, h3⟩ := h
  cases he
  have hl : (xs.take m).length = m := by rw [List.length_take]; omega
  refine ⟨a, c, by rw [hl], by omega, h2, fun i hi => ?_⟩
  obtain ⟨b, o, e, hb, hc⟩ := h3 i (by omega)
  exact ⟨b, o, e, hb, by rw [hc, List.getElem_take]⟩
theorem In1.drop {w : World} {b o n c : Nat} {xs : List Value} (h : In1 w (.slice (some ⟨b, o, none⟩) n c) xs) (m : Nat) (hm : m ≤ n) : In1 w (.slice (some ⟨b, o + m, none⟩) (n - m) (c - m)) (xs.drop m) := by
  obtain ⟨a', cap, he, h1, h2, h3⟩ := h
  cases he
  refine ⟨some ⟨b, o + m, none⟩, c - m, by rw [List.length_drop], by rw [List.length_drop]; omega, by omega, fun i hi => ?_⟩
  rw [List.length_drop] at hi
  obtain ⟨b', o', e, hb, hc⟩ := h3 (m + i) (by omega)
  cases e
  exact ⟨b, o + m, rfl, hb, by rw [Nat.add_assoc, hc, List.getElem_drop]⟩
theorem In1.cell {w : World} {b o n c : Nat} {xs : List Value} (h : In1 w (.slice (some ⟨b, o, none⟩) n c) xs) (i : Nat) (hi : i < xs.length) : b < w.heap.size ∧ w.cell? ⟨b, o + i, none⟩ = some xs[i] := by
  obtain ⟨a', cap, he, h1, h2, h3⟩ := h
  cases he
  obtain ⟨b', o', e, hb, hc⟩ := h3 i hi
  cases e
  exact ⟨hb, hc⟩
theorem In1.at {w : World} {v : Value} {xs : List Value} (h : In1 w v xs) (h0 : 0 < xs.length) : ∃ b o cap, v = .slice (some ⟨b, o, none⟩) xs.length cap ∧ xs.length ≤ cap ∧ cap ≤ maxLen ∧ b < w.heap.size := by
  obtain ⟨a, cap, rfl, h1, h2, h3⟩ := h
  obtain ⟨b, o, rfl, hb, _⟩ := h3 0 h0
  exact ⟨b, o, cap, rfl, h1, h2, hb⟩

/-! ### rows of the call's own -/
theorem own_shape {w : World} {base n : Nat} {E : TypeId} {v : Value} {xs : List Value} (h : w.ownsRow base E 1 v n xs) : ∃ a c, v = .slice a n c ∧ n ≤ c ∧ c ≤ maxLen ∧ xs.length = n ∧ (0 < n → ∃ g, a = some ⟨g, 0, none⟩) := by
  have hl : xs.length = n := by have := h.1; omega
  rcases h.2 with ⟨hv, hn⟩ | ⟨g, cap, cur, hv, hb, hg, hnc, hcm, _⟩
  · exact ⟨none, 0, by rw [hv, hn], by omega, by rw [maxLenIs]; omega, hl, fun h => by omega⟩
  · exact ⟨_, cap, hv, hnc, hcm, hl, fun _ => ⟨g, rfl⟩⟩
theorem own_in {w : World} {base n : Nat} {E : TypeId} {v : Value} {xs : List Value} (h : w.ownsRow base E 1 v n xs) : In1 w v xs := by
  have hl : xs.length = n := by have := h.1; omega
  subst hl
  rcases h.2 with ⟨hv, hn⟩ | ⟨g, cap, cur, hv, hb, hg, hnc, hcm, hcs, ht⟩
  · exact ⟨none, 0, by rw [hv, hn], by omega, by rw [maxLenIs]; omega, fun i hi => by omega⟩
  · refine ⟨_, cap, hv, hnc, hcm, fun i hi => ⟨g, 0, rfl, lt_heap hg, ?_⟩⟩
    have hx : xs[i]? = some xs[i] := List.getElem?_eq_getElem hi
    rw [Nat.zero_add, cell_heap hg, ← hx, ← ht, List.getElem?_take, if_pos (by omega), Array.getElem?_toList]
theorem own_mk {w : World} {base g c n : Nat} {E : TypeId} {cur : Array Value} {xs : List Value} (hb : base ≤ g) (h : w.heap[g]? = some (.cells cur E (0, 0))) (hs : cur.size = c) (hn : n ≤ c) (hm : c ≤ maxLen) (ht : cur.toList.take n = xs) : w.ownsRow base E 1 (.slice (some ⟨g, 0, none⟩) n c) n xs :=
  ⟨by rw [← ht, List.length_take, Array.length_toList]; omega, .inr ⟨g, c, cur, rfl, hb, h, hn, hm, by omega, by rw [Nat.mul_one]; exact ht⟩⟩
theorem own_open {w : World} {base g c n : Nat} {E : TypeId} {xs : List Value} (h : w.ownsRow base E 1 (.slice (some ⟨g, 0, none⟩) n c) n xs) : base ≤ g ∧ ∃ cur : Array Value, w.heap[g]? = some (.cells cur E (0, 0)) ∧ cur.size = c ∧ n ≤ c ∧ c ≤ maxLen ∧ cur.toList.take n = xs ∧ xs.length = n := by
  rcases h.2 with ⟨hv, hn⟩ | ⟨g', cap, cur, hv, hb, hg, hnc, hcm, hcs, ht⟩
  · cases hv
  · cases hv
    exact ⟨hb, cur, hg, by omega, hnc, hcm, by rw [Nat.mul_one] at ht; exact ht, by have := h.1; omega⟩
theorem own_of_mod {w w' : World} {G : Nat → Prop} {base e size : Nat} {v : Value} {n : Nat} {xs : List Value} (h : w.ownsRow base e size v n xs) (hm : Mod G w w') (hG : ∀ k, v.ownBlock = some k → ¬ G k) : w'.ownsRow base e size v n xs := by
  obtain ⟨h1, h2⟩ := h
  refine ⟨h1, ?_⟩
  rcases h2 with h2 | ⟨g, cap, cur, rfl, hb, hg, r⟩
  · exact .inl h2
  · exact .inr ⟨g, cap, cur, rfl, hb, (hm.block g (lt_heap hg) (hG g rfl)).trans hg, r⟩
theorem own_set {w : World} {base g n c i : Nat} {E : TypeId} {xs : List Value} (u : Value) (h : w.ownsRow base E 1 (.slice (some ⟨g, 0, none⟩) n c) n xs) : (w.setCell ⟨g, i, none⟩ u).ownsRow base E 1 (.slice (some ⟨g, 0, none⟩) n c) n (xs.set i u) := by
  obtain ⟨hb, cur, hg, hs, hn, hm, ht, hl⟩ := own_open h
  refine own_mk hb (by rw [heap_setCell_same, hg]; rfl) (by simp; exact hs) hn hm ?_
  simp only [Array.toList_setIfInBounds]
  rw [List.take_set, ht]
theorem own_type {w : World} {base size n q : Nat} {E T : TypeId} {v : Value} {xs : List Value} {c : Array Value} {f : Nat × Nat} (h : w.ownsRow base E size v n xs) (hq : v.ownBlock = some q) (hc : w.heap[q]? = some (.cells c T f)) : E = T := by
  rcases h.2 with ⟨rfl, _⟩ | ⟨g, cap, cur, rfl, hb, hg, _⟩
  · simp [Value.ownBlock] at hq
  · simp [Value.ownBlock] at hq
    subst hq
    rw [hg] at hc
    cases hc
    rfl
/-- Two rows of unlike types lie apart. -/
theorem own_apart {w : World} {base base' n n' size size' : Nat} {E E' : TypeId} {v v' : Value} {xs xs' : List Value} (h : w.ownsRow base E size v n xs) (h' : w.ownsRow base' E' size' v' n' xs') (hE : E ≠ E') : ∀ q, v.ownBlock = some q → v'.ownBlock ≠ some q := fun q hq hq' => by
  rcases h'.2 with ⟨rfl, _⟩ | ⟨g, cap, cur, rfl, hb, hg, _⟩
  · simp [Value.ownBlock] at hq'
  · simp [Value.ownBlock] at hq'
    subst hq'
    exact hE (own_type h hq hg)

/-! ### an append out of whatever source -/
theorem own_append_src {P : Program} {W : World} {base n m bytes : Nat} {t tx e : TypeId} {v x : Value} {xs ys : List Value} (ty : TypeId) {i : TypeInfo} {z : Value} (ht : P.underlying t = some (.slice e)) (hi : P.info? e = some i) (hz : i.zero = some z) (h1 : i.size = 1) (hby : i.bytes = bytes) (hzs : z.cells.size = 1)
    (h : W.ownsRow base e 1 v n xs) (hs : Src P 1 tx x m ys W) (hn : n + m ≤ 1000000000) (hbt : bytes ≤ 1000) (hb : base ≤ W.heap.size) :
    ∃ v' W', (Builtin.append_ #[t, tx] ty #[v, x]).run P W = .ok v' W' ∧ W'.ownsRow base e 1 v' (n + m) (xs ++ ys) ∧ Mod (fun k => v.ownBlock = some k) W W' ∧ (v'.ownBlock = v.ownBlock ∨ v'.ownBlock = some W.heap.size) := by
  have hyl : ys.length = m := by have := hs.newsLen; omega
  have hbb : (n + m) * bytes ≤ 1000000000 * 1000 := Nat.mul_le_mul hn hbt
  have hs' : Src P i.size tx x m ys W := by rw [h1]; exact hs
  have grow : ∀ (bs : Option Addr) (cap : Nat), cap < n + m → (Builtin.firstCells i.size n (.slice bs n cap)).run P W.drew = .ok xs.toArray W.drew → v = .slice bs n cap →
      ∃ v' W', (Builtin.append_ #[t, tx] ty #[v, x]).run P W = .ok v' W' ∧ W'.ownsRow base e 1 v' (n + m) (xs ++ ys) ∧ Mod (fun k => v.ownBlock = some k) W W' ∧ (v'.ownBlock = v.ownBlock ∨ v'.ownBlock = some W.heap.size) := fun bs cap hcap hold hv => by
    have hr := run_append_grow_src W t tx ty e i z ht hi hz bs n cap xs hold x m ys hs' hcap (by omega) (growslice_fits (by omega) (by rw [hby]; omega))
    rw [hv]
    refine ⟨_, _, hr, own_mk hb (heap_alloc_new W.drew _) ?_ (grownCap_ge _ _ _ _) (grownCap_le_maxLen _ _ _ _ (by rw [maxLenIs]; omega)) ?_, ((Mod.refl _ _).drew.alloc _), .inr rfl⟩
    · have := grownCap_ge W (n + m) cap e
      have hl := h.1
      simp only [Array.size_append, List.size_toArray, List.length_append, size_zeroCells, hzs]
      omega
    · have hl := h.1
      simp only [Array.toList_append]
      rw [List.take_left' (by simp only [List.length_append]; omega)]
  rcases h.2 with ⟨rfl, h0⟩ | ⟨g, cap, cur, rfl, hbg, hg, hnc, hcm, hcs, htk⟩
  · subst h0
    have hx : xs = [] := List.eq_nil_of_length_eq_zero (by have := h.1; omega)
    subst hx
    by_cases hm : m = 0
    · subst hm
      have hy : ys = [] := List.eq_nil_of_length_eq_zero hyl
      subst hy
      refine ⟨_, W, run_append_nothing (P := P) W _ _ ty _ i ht hi none 0 0 (Nat.le_refl _) _ hs', ?_, Mod.refl _ _, .inl rfl⟩
      exact World.ownsRow_nil W base e 1
    · exact grow none 0 (by omega) (run_firstCells_none W.drew _ 0 0 0) rfl
  · have hnx : xs.length = n := by have := h.1; omega
    by_cases hroom : n + m ≤ cap
    · have hr := run_append_room_src W t tx ty e i ht hi g 0 n cap x m ys hs' hroom (fun j hj => by rw [h1, cell_heap hg]; simp; omega) (fun j hj => frozen_heap hg _)
      rw [h1, Nat.zero_add, Nat.mul_one] at hr
      refine ⟨_, _, hr, ?_, ?_, .inl rfl⟩
      · have key : ∀ (vs : List Value) (o : Nat) (U : World) (cs : Array Value), U.heap[g]? = some (.cells cs e (0, 0)) → o + vs.length ≤ cs.size → ∃ cs' : Array Value, (U.setCells g o vs).heap[g]? = some (.cells cs' e (0, 0)) ∧ cs'.size = cs.size ∧ cs'.toList.take (o + vs.length) = cs.toList.take o ++ vs := by
          intro vs
          induction vs with
          | nil => intro o U cs hU hl; exact ⟨cs, hU, rfl, by simp⟩
          | cons u vs ih =>
            intro o U cs hU hl
            simp only [List.length_cons] at hl
            obtain ⟨cs', k1, k2, k3⟩ := ih (o + 1) (U.setCell ⟨g, o, none⟩ u) (cs.setIfInBounds o u) (by rw [heap_setCell_same, hU]; rfl) (by simp; omega)
            refine ⟨cs', k1, by rw [k2]; simp, ?_⟩
            rw [List.length_cons, show o + (vs.length + 1) = o + 1 + vs.length by omega, k3]
            have hlo : o < cs.toList.length := by rw [Array.length_toList]; omega
            rw [Array.toList_setIfInBounds, List.take_set, List.take_succ_eq_append_getElem hlo, List.set_append_right _ _ (by rw [List.length_take]; omega), List.length_take, Nat.min_eq_left (by omega), Nat.sub_self]
            simp
        obtain ⟨cs', k1, k2, k3⟩ := key ys n W cur hg (by omega)
        refine own_mk hbg k1 (by rw [k2]; omega) hroom hcm ?_
        rw [hyl] at k3
        rw [k3]
        rw [Nat.mul_one] at htk
        rw [htk]
      · have key : ∀ (vs : List Value) (o : Nat) (U : World), Mod (fun k => (Value.slice (some ⟨g, 0, none⟩) n cap).ownBlock = some k) W U → Mod (fun k => (Value.slice (some ⟨g, 0, none⟩) n cap).ownBlock = some k) W (U.setCells g o vs) := by
          intro vs
          induction vs with
          | nil => intro o U hU; exact hU
          | cons u vs ih => intro o U hU; exact ih (o + 1) _ (hU.setCell _ _ (fun _ => rfl))
        exact key _ _ _ (Mod.refl _ _)
    · refine grow _ cap (by omega) ?_ rfl
      rw [h1]
      exact run_firstCells_some W.drew 1 n ⟨g, 0, none⟩ n cap xs (by omega) (fun j u hj => by rw [World.cell?_drew]; exact h.cells (g := g) rfl j u hj)

/-- .. at the operation, for the walk. -/
theorem wpList_append_row {P : Program} {ops : Array Oper} {rest : List Oper} {o : Oper} {a : Act} {w : World} {Q : Exit → Act → World → Prop} (hgd : o.guard = none) (s x : Operand) (t tx : TypeId)
    (ho : o.op = .call { callee := .builtin .append, args := #[s, x], argTypes := #[t, tx] }) {v y : Value} (hs : a.eval s = v) (hx : a.eval x = y) {base n m bytes : Nat} {e : TypeId} {xs ys : List Value} {i : TypeInfo} {z : Value}
    (ht : P.underlying t = some (.slice e)) (hi : P.info? e = some i) (hz : i.zero = some z) (h1 : i.size = 1) (hby : i.bytes = bytes) (hzs : z.cells.size = 1) (h : w.ownsRow base e 1 v n xs) (hsrc : Src P 1 tx y m ys w) (hn : n + m ≤ 1000000000) (hbt : bytes ≤ 1000) (hb : base ≤ w.heap.size)
    (hK : ∀ b c w', w'.ownsRow base e 1 (.slice b (n + m) c) (n + m) (xs ++ ys) → Mod (fun k => v.ownBlock = some k) w w' → ((Value.slice b (n + m) c).ownBlock = v.ownBlock ∨ (Value.slice b (n + m) c).ownBlock = some w.heap.size) → wpList P ops Q rest (a.put o.dst (.slice b (n + m) c)) w') :
    wpList P ops Q (o :: rest) a w := by
  refine wpList_plain hgd fun K hK' => ?_
  obtain ⟨v', w', hr, h3, h4, h5⟩ := own_append_src o.type ht hi hz h1 hby hzs h hsrc hn hbt hb
  obtain ⟨b, c, rfl, _⟩ := own_shape h3
  unfold Oper.wp
  simp [execOp, ho, resolve, invoke, builtin, hs, hx, hr, Result.andThen]
  exact hK' _ _ (hK _ _ _ h3 h4 h5)

/-! ### cells with others in their places -/
def lay1 : Array Value → Nat → List Value → Array Value
  | cs, _, [] => cs
  | cs, o, v :: r => lay1 (cs.setIfInBounds o v) (o + 1) r
theorem lay1_size : ∀ (vs : List Value) (cs : Array Value) (o : Nat), (lay1 cs o vs).size = cs.size
  | [], _, _ => rfl
  | v :: r, cs, o => by rw [lay1, lay1_size r]; simp
theorem lay1_get : ∀ (vs : List Value) (cs : Array Value) (o j : Nat), o + vs.length ≤ cs.size → (lay1 cs o vs)[j]? = if o ≤ j ∧ j < o + vs.length then vs[j - o]? else cs[j]?
  | [], cs, o, j, _ => by rw [lay1, if_neg (by simp only [List.length_nil]; omega)]
  | v :: r, cs, o, j, h => by
    simp only [List.length_cons] at h ⊢
    rw [lay1, lay1_get r _ (o + 1) j (by simp; omega)]
    by_cases h1 : o + 1 ≤ j ∧ j < o + 1 + r.length
    · rw [if_pos h1, if_pos (by omega), show j - o = (j - (o + 1)) + 1 by omega, List.getElem?_cons_succ]
    · rw [if_neg h1]
      by_cases h2 : j = o
      · subst h2
        rw [if_pos (by omega), Nat.sub_self, List.getElem?_cons_zero, Array.getElem?_setIfInBounds, if_pos rfl, if_pos (by omega)]
      · rw [if_neg (by omega), Array.getElem?_setIfInBounds, if_neg (fun e => h2 e.symm)]
theorem heap_lay1 (g : Nat) (t : TypeId) (f : Nat × Nat) : ∀ (vs : List Value) (o : Nat) (w : World) (cs : Array Value), w.heap[g]? = some (.cells cs t f) → (w.setCells g o vs).heap[g]? = some (.cells (lay1 cs o vs) t f)
  | [], _, _, _, h => h
  | v :: r, o, w, cs, h => by
    show ((w.setCell ⟨g, o, none⟩ v).setCells g (o + 1) r).heap[g]? = _
    exact heap_lay1 g t f r (o + 1) _ _ (by rw [heap_setCell_same, h]; rfl)
theorem mod_lay1 {G : Nat → Prop} {a : World} (g : Nat) (hg : g < a.heap.size → G g) : ∀ (vs : List Value) (o : Nat) (b : World), Mod G a b → Mod G a (b.setCells g o vs)
  | [], _, _, h => h
  | v :: r, o, b, h => by
    show Mod G a ((b.setCell ⟨g, o, none⟩ v).setCells g (o + 1) r)
    exact mod_lay1 g hg r (o + 1) _ (h.setCell _ _ hg)
/-- One is put in. -/
theorem ins_take {cur : Array Value} {xs : List Value} {n i : Nat} (x : Value) (hn : n + 1 ≤ cur.size) (hi : i ≤ n) (ht : cur.toList.take n = xs) (hl : xs.length = n) : (lay1 (lay1 cur (i + 1) (xs.drop i)) i [x]).toList.take (n + 1) = xs.take i ++ x :: xs.drop i := by
  apply List.ext_getElem?
  intro j
  have hc : ∀ k : Nat, k < n → cur[k]? = xs[k]? := fun k hk => by rw [← ht, List.getElem?_take, if_pos hk, Array.getElem?_toList]
  rw [List.getElem?_take, Array.getElem?_toList]
  rw [lay1_get _ _ _ _ (by rw [lay1_size]; simp only [List.length_cons, List.length_nil]; omega), lay1_get _ _ _ _ (by rw [List.length_drop]; omega)]
  simp only [List.length_cons, List.length_nil, List.length_drop]
  rcases Nat.lt_trichotomy j i with h | h | h
  · rw [if_pos (by omega), if_neg (by omega), if_neg (by omega), List.getElem?_append_left (by rw [List.length_take]; omega), List.getElem?_take, if_pos h, hc j (by omega)]
  · subst h
    rw [if_pos (by omega), if_pos (by omega), List.getElem?_append_right (by rw [List.length_take]; omega), List.length_take, Nat.min_eq_left (by omega), Nat.sub_self]
    rfl
  · rw [List.getElem?_append_right (by rw [List.length_take]; omega), List.length_take, Nat.min_eq_left (by omega)]
    have e : (x :: xs.drop i)[j - i]? = (xs.drop i)[j - (i + 1)]? := by rw [show j - i = (j - (i + 1)) + 1 by omega, List.getElem?_cons_succ]
    rw [e]
    by_cases h2 : j < n + 1
    · rw [if_pos h2, if_neg (by omega), if_pos (by omega)]
    · rw [if_neg h2, List.getElem?_eq_none (by rw [List.length_drop]; omega)]
theorem ins_take2 {cur : Array Value} {xs : List Value} {n i : Nat} (x : Value) (hn : n + 1 ≤ cur.size) (hi : i ≤ n) (ht : ∀ k : Nat, k < i → cur[k]? = xs[k]?) (hl : xs.length = n) : (lay1 (lay1 cur i [x]) (i + 1) (xs.drop i)).toList.take (n + 1) = xs.take i ++ x :: xs.drop i := by
  apply List.ext_getElem?
  intro j
  rw [List.getElem?_take, Array.getElem?_toList]
  rw [lay1_get _ _ _ _ (by rw [lay1_size, List.length_drop]; omega), lay1_get _ _ _ _ (by simp only [List.length_cons, List.length_nil]; omega)]
  simp only [List.length_cons, List.length_nil, List.length_drop]
  rcases Nat.lt_trichotomy j i with h | h | h
  · rw [if_pos (by omega), if_neg (by omega), if_neg (by omega), List.getElem?_append_left (by rw [List.length_take]; omega), List.getElem?_take, if_pos h, ht j h]
  · subst h
    rw [if_pos (by omega), if_neg (by omega), if_pos (by omega), List.getElem?_append_right (by rw [List.length_take]; omega), List.length_take, Nat.min_eq_left (by omega), Nat.sub_self]
    rfl
  · rw [List.getElem?_append_right (by rw [List.length_take]; omega), List.length_take, Nat.min_eq_left (by omega)]
    have e : (x :: xs.drop i)[j - i]? = (xs.drop i)[j - (i + 1)]? := by rw [show j - i = (j - (i + 1)) + 1 by omega, List.getElem?_cons_succ]
    rw [e]
    by_cases h2 : j < n + 1
    · rw [if_pos h2, if_pos (by omega)]
    · rw [if_neg h2, List.getElem?_eq_none (by rw [List.length_drop]; omega)]

end Go.Proofs.YtgofngilfdnakaaGreat
