/-
  This text proves how the model of the law SessPlays goes on, and lays out the law's switch as a code of its own: no condition; no Go function is walked.
-/
import Derived.Test.YtgofngilfdnakaaSess9
import Derived.Test.YtgofngilfdnakaaApp
import Derived.Deep.Cut
import Derived.Deep.CutRange
import Derived.Deep.CutBlock
import Derived.Deep.RegionWith
namespace Go.Proofs.Ytgofngilfdnakaa
open Go Go.RowKit

theorem Act3.facts {w : World} {D : Nat} {x0 x1 x2 : Value} (h : w.heap[D]? = some (.cells #[x0, x1, x2] 75 (0, 0))) : D < w.heap.size ∧ w.cell? ⟨D, 0, none⟩ = some x0 ∧ w.cell? ⟨D, 1, none⟩ = some x1 ∧ w.cell? ⟨D, 2, none⟩ = some x2 ∧ ∀ i, w.frozen? ⟨D, i, none⟩ = false :=
  ⟨lt_heap h, (cell_heap h 0).trans rfl, (cell_heap h 1).trans rfl, (cell_heap h 2).trans rfl, frozen_heap h⟩
/-- The block of a number. -/
def findBlockS (n : Nat) : Code → Option Code
  | .block m c => if m = n then some (.block m c) else findBlockS n c
  | .seq a b => match findBlockS n a with
    | some c => some c
    | none => findBlockS n b
  | .loop c => findBlockS n c
  | .scope c => findBlockS n c
  | .cond _ a b => match findBlockS n a with
    | some c => some c
    | none => findBlockS n b
  | _ => none
/-- What follows, with panics that do not look at the frame. -/
def loudS (Q : Exit → Act → World → Prop) : Exit → Act → World → Prop
  | .panic c, a, w => ∃ tm, Q (.panic c) ⟨tm, a.defers⟩ w
  | e, a, w => Q e a w
theorem wp_loudS {P : Program} {s : Code} {K : Act → World → Prop} {Q : Exit → Act → World → Prop} {a : Act} {w : World} (h : ∀ c tm a w, Q (.panic c) ⟨tm, a.defers⟩ w → Q (.panic c) a w) (hw : s.wp P (Exit.then K (loudS Q)) a w) : s.wp P (Exit.then K Q) a w :=
  wp_mono hw fun e a' w' hq => by
    cases e with
    | panic c => obtain ⟨tm, h0⟩ := hq; exact h c tm a' w' h0
    | normal => exact hq
    | exit id => exact hq
    | goto l => exact hq
    | ret => exact hq
    | outgrown => exact hq
/-- The switch. -/
noncomputable def blkS : Code := ((Try.f9.body.bind (findBlockS 2)).getD .skip)

theorem elemOp : Elem Try.prog 72 81 2 32 := elem_of Try.underlying72 (z := .agg #[.int .i64 0, .slice none 0 0]) (by kernel_rfl) rfl (by decide)
theorem elemU : Elem Try.prog 79 73 1 4 := elem_of Try.underlying79 (z := .int .u32 0) (by kernel_rfl) rfl (by decide)
theorem opCells_take : ∀ (E : Es) (i : Nat), (opCells E).take (i * 2) = opCells (E.take i)
  | _, 0 => by simp [opCells]
  | [], i + 1 => by simp [opCells]
  | e :: E, i + 1 => by
    have ih := opCells_take E i
    rw [List.take_succ_cons, show (i + 1) * 2 = i * 2 + 1 + 1 by omega]
    show ([Value.int .i64 e.1, e.2.1] ++ opCells E).take (i * 2 + 1 + 1) = [Value.int .i64 e.1, e.2.1] ++ opCells (E.take i)
    rw [← ih]
    rfl
theorem opCells_drop : ∀ (E : Es) (i : Nat), (opCells E).drop (i * 2) = opCells (E.drop i)
  | _, 0 => by simp
  | [], i + 1 => by simp [opCells]
  | e :: E, i + 1 => by
    have ih := opCells_drop E i
    rw [List.drop_succ_cons, show (i + 1) * 2 = i * 2 + 1 + 1 by omega]
    show ([Value.int .i64 e.1, e.2.1] ++ opCells E).drop (i * 2 + 1 + 1) = opCells (E.drop i)
    rw [← ih]
    rfl
theorem ops_part_take {w : World} {base g c : Nat} {E : Es} {i : Nat} (h : OpsAt w base (.slice (some ⟨g, 0, none⟩) E.length c) E) (hi : i ≤ E.length) (hc : E.length ≤ c) : PartAt w 2 (.slice (some ⟨g, 0, none⟩) i c) i (opCells (E.take i)) := by
  have := row_sub (o := 0) (m := i) (c := c) h (by omega) (by omega) ⟨g, 0, none⟩ (fun _ => by simp)
  rw [Nat.zero_mul, List.drop_zero, opCells_take] at this
  exact this
theorem ops_part_drop {w : World} {base g c c2 : Nat} {E : Es} {i : Nat} (h : OpsAt w base (.slice (some ⟨g, 0, none⟩) E.length c) E) (hi : i ≤ E.length) (hc : E.length - i ≤ c2) (a : Addr) (ha : i < E.length → a = ⟨g, i * 2, none⟩) : PartAt w 2 (.slice (some a) (E.length - i) c2) (E.length - i) (opCells (E.drop i)) := by
  have := row_sub (o := i) (m := E.length - i) (c := c2) h (by omega) hc a (fun h0 => ha (by omega))
  rw [opCells_drop, List.take_of_length_le (by rw [opCells_length, List.length_drop]; omega)] at this
  exact this
theorem nums_part {w : World} {base : Nat} {v : Value} {L : List Nat} (h : Nums w base v L) : PartAt w 1 v L.length (L.map fun n : Nat => Value.int .u32 (n : Int)) := row_part h
theorem nums_part_take {w : World} {base g c : Nat} {L : List Nat} {i : Nat} (h : Nums w base (.slice (some ⟨g, 0, none⟩) L.length c) L) (hi : i ≤ L.length) (hc : L.length ≤ c) : PartAt w 1 (.slice (some ⟨g, 0, none⟩) i c) i ((L.take i).map fun n : Nat => Value.int .u32 (n : Int)) := by
  have := row_sub (o := 0) (m := i) (c := c) h (by omega) (by omega) ⟨g, 0, none⟩ (fun _ => by simp)
  rw [Nat.zero_mul, List.drop_zero, Nat.mul_one] at this
  rw [List.map_take]
  exact this
theorem nums_part_drop {w : World} {base g c c2 : Nat} {L : List Nat} {i : Nat} (h : Nums w base (.slice (some ⟨g, 0, none⟩) L.length c) L) (hi : i ≤ L.length) (hc : L.length - i ≤ c2) (a : Addr) (ha : i < L.length → a = ⟨g, i, none⟩) : PartAt w 1 (.slice (some a) (L.length - i) c2) (L.length - i) ((L.drop i).map fun n : Nat => Value.int .u32 (n : Int)) := by
  have := row_sub (o := i) (m := L.length - i) (c := c2) h (by omega) hc a (fun h0 => by rw [Nat.mul_one]; exact ha (by omega))
  rw [Nat.mul_one, Nat.mul_one, List.take_of_length_le (by rw [List.length_drop, List.length_map]; exact Nat.le_refl _)] at this
  rw [List.map_drop]
  exact this
theorem nums_one (L : List Nat) : ∀ u ∈ L.map (fun n : Nat => Value.int .u32 (n : Int)), u.oneCell' = true := fun u hu => by
  obtain ⟨n, _, rfl⟩ := List.mem_map.1 hu
  rfl
theorem MS.slices {B : Nat} {w : World} {vm : Value} {E : Es} (h : MS B w vm E) : Slices E := fun e he => by
  obtain ⟨a, c, hv, _⟩ := (h.nums e he).shape
  exact ⟨a, _, c, hv⟩
/-- A row that lies in memory. -/
theorem ops_some {w : World} {base n c : Nat} {b : Option Addr} {E : Es} (h : OpsAt w base (.slice b n c) E) (hb : b ≠ none) : ∃ g, b = some ⟨g, 0, none⟩ ∧ n = E.length ∧ n ≤ c := by
  rcases h.2 with ⟨hv, _⟩ | ⟨g', cap, cur, hv, _, hg, hnc, _⟩
  · cases hv; exact absurd rfl hb
  · cases hv; exact ⟨g', rfl, rfl, hnc⟩
theorem ops_some' {w : World} {base : Nat} {v : Value} {E : Es} (h : OpsAt w base v E) (hE : E ≠ []) : ∃ g c, v = .slice (some ⟨g, 0, none⟩) E.length c ∧ E.length ≤ c := by
  rcases h.2 with ⟨hv, hn⟩ | ⟨g', cap, cur, hv, _, hg, hnc, _⟩
  · exact absurd (List.eq_nil_of_length_eq_zero hn) hE
  · exact ⟨g', cap, hv, hnc⟩

/-- What stands behind the switch. -/
def SG (w wx : World) (t b D k : Nat) (x0 x1 x2 : Value) (z : Value) : Prop :=
  ∃ g nm cm, z = .slice (some ⟨g, 0, none⟩) nm cm ∧ ∃ k' Em Et, k' ≤ k + 1 ∧ PS w wx t b k' (.slice (some ⟨g, 0, none⟩) nm cm) Em Et ∧ pl Em = pl Et ∧ KA wx t b Et D #[x0, x1, x2] 75
section
variable {w W W' : World} {t b k D : Nat} {vm vm' : Value} {Em Em' Et : Es} {cs : Array Value}
/-- The model becomes another one: each of its sessions was there, or has requests in a row that is new. -/
theorem PS.turned (h : PS w W t b k vm Em Et) (hm : Mod NoB W W') (ho : OpsAt W' W.heap.size vm' Em') (he : ∀ e ∈ Em', e ∈ Em ∨ (Nums W' W.heap.size e.2.1 e.2.2)) : PS w W' t b k vm' Em' Et := by
  refine h.model hm ⟨row_base ho h.mod.size, fun e hee => ?_⟩ (fun q hq => ?_)
  · rcases he e hee with h1 | h1
    · exact (h.quiet hm).ms.nums e h1
    · exact row_base h1 h.mod.size
  · rcases hq with hq | ⟨e, hee, hq⟩
    · exact .inr (ho.lt q hq).1
    · rcases he e hee with h1 | h1
      · exact .inl (.inr ⟨e, h1, hq⟩)
      · exact .inr (h1.lt q hq).1
end

theorem first_unique {L : List Nat} {n i j : Nat} (h1 : L[i]? = some n) (h2 : ∀ q, q < i → L[q]?.getD 0 ≠ n) (h3 : L[j]? = some n) (h4 : ∀ q, q < j → L[q]?.getD 0 ≠ n) : i = j := by
  rcases Nat.lt_trichotomy i j with h | h | h
  · have := h4 i h
    rw [h1] at this
    exact absurd rfl this
  · exact h
  · have := h2 j h
    rw [h3] at this
    exact absurd rfl this
/-- The requests of a session. -/
def listAt (E : Es) (s : Int) : List Nat := ((E[findAt E s]?).map (·.2.2)).getD []
theorem listAt_pl {E F : Es} (h : pl E = pl F) (s : Int) : listAt E s = listAt F s := by
  unfold listAt
  rw [findAt_pl h s]
  have hl := pl_len h
  by_cases hi : findAt F s < F.length
  · rw [List.getElem?_eq_getElem hi, List.getElem?_eq_getElem (by omega), Option.map_some, Option.map_some, (pl_at h _ (by omega) hi).2]
  · rw [List.getElem?_eq_none (by omega), List.getElem?_eq_none (by omega)]
section
variable {w W : World} {t b k i : Nat} {vm : Value} {Em Et : Es} {s : Int} {n : Nat}
theorem PEnd_yes (h : PS w W t b k vm Em Et) (hpl : pl Em = pl Et) (hi : i = findAt Em s) (h0 : -9223372036854775808 ≤ s) (h1 : s ≤ 9223372036854775807) (hk : k ≤ 900) {j : Nat} (his : isAt Em s = true) (hj : (listAt Em s)[j]? = some n) (hf : ∀ q, q < j → (listAt Em s)[q]?.getD 0 ≠ n) :
    Calls Try.prog 51 #[.pointer (some ⟨t, 0, none⟩), .int .i64 s, .int .u32 n] W fun e w' => e = .returned (.bool true) ∧ ∃ v' k', k' ≤ k + 1 ∧ PS w w' t b k' vm Em (Et.set i (s, v', (listAt Em s).eraseIdx j)) ∧ Step W w' t b Et (Et.set i (s, v', (listAt Em s).eraseIdx j)) := by
  refine (TEnd w.heap.size t b k Et s n W h.ts h0 h1 hk).mono fun e w' ⟨r, he, E', k', hk', ht, hst, hc⟩ => ?_
  have e1 : ((Et[findAt Et s]?).map (·.2.2)).getD [] = listAt Em s := (listAt_pl hpl s).symm
  rw [e1] at hc
  rcases hc with ⟨_, _, h2⟩ | ⟨rfl, _, v', i2, h2, h3, rfl⟩
  · exact absurd (List.mem_of_getElem? hj) (h2 (by rw [← isAt_pl hpl s]; exact his))
  · obtain rfl := first_unique h2 h3 hj hf
    have e2 : findAt Et s = i := by rw [hi, findAt_pl hpl s]
    rw [e2] at ht hst
    exact ⟨he, v', k', hk', h.step hst ht, hst⟩
theorem PEnd_no (h : PS w W t b k vm Em Et) (hpl : pl Em = pl Et) (h0 : -9223372036854775808 ≤ s) (h1 : s ≤ 9223372036854775807) (hk : k ≤ 900) (hn : isAt Em s = true → n ∉ listAt Em s) :
    Calls Try.prog 51 #[.pointer (some ⟨t, 0, none⟩), .int .i64 s, .int .u32 n] W fun e w' => e = .returned (.bool false) ∧ ∃ k', k' ≤ k + 1 ∧ PS w w' t b k' vm Em Et ∧ Step W w' t b Et Et := by
  refine (TEnd w.heap.size t b k Et s n W h.ts h0 h1 hk).mono fun e w' ⟨r, he, E', k', hk', ht, hst, hc⟩ => ?_
  have e1 : ((Et[findAt Et s]?).map (·.2.2)).getD [] = listAt Em s := (listAt_pl hpl s).symm
  rw [e1] at hc
  rcases hc with ⟨rfl, rfl, _⟩ | ⟨_, h2, v', i2, h3, _⟩
  · exact ⟨he, k', hk', h.step hst ht, hst⟩
  · rw [← isAt_pl hpl s] at h2
    exact absurd (List.mem_of_getElem? h3) (hn h2)
theorem PBegin (h : PS w W t b k vm Em Et) (hpl : pl Em = pl Et) (hi : i = findAt Em s) (h0 : -9223372036854775808 ≤ s) (h1 : s ≤ 9223372036854775807) (hk : k ≤ 900) :
    Calls Try.prog 55 #[.pointer (some ⟨t, 0, none⟩), .int .i64 s, .int .u32 n] W fun e w' => e = .returned (.int .i64 (beginOf Em s n)) ∧ ∃ E' k', k' ≤ k + 1 ∧ PS w w' t b k' vm Em E' ∧ Step W w' t b Et E' ∧
      ((beginOf Em s n ≠ 0 ∧ E' = Et) ∨ (beginOf Em s n = 0 ∧ isAt Em s = true ∧ ∃ v', E' = Et.set i (s, v', listAt Em s ++ [n]))) := by
  refine (TBegin w.heap.size t b k Et s n W h.ts h0 h1 hk h.mod.size).mono fun e w' ⟨he, E', k', hk', ht, hst, hc⟩ => ?_
  have e1 : ((Et[findAt Et s]?).map (·.2.2)).getD [] = listAt Em s := (listAt_pl hpl s).symm
  rw [e1, ← findAt_pl hpl s, ← isAt_pl hpl s, ← hi, ← beginOf_pl hpl s n] at hc
  rw [← beginOf_pl hpl s n] at he
  exact ⟨he, E', k', hk', h.step hst ht, hst, hc⟩
theorem PClose (h : PS w W t b k vm Em Et) (hpl : pl Em = pl Et) (hi : i = findAt Em s) (h0 : -9223372036854775808 ≤ s) (h1 : s ≤ 9223372036854775807) :
    Calls Try.prog 53 #[.pointer (some ⟨t, 0, none⟩), .int .i64 s] W fun e w' => ∃ v, e = .returned v ∧ ∃ E' k', k' ≤ k ∧ PS w w' t b k' vm Em E' ∧ Step W w' t b Et E' ∧ Nums w' w.heap.size v (if isAt Em s then listAt Em s else []) ∧
      ((isAt Em s = false ∧ E' = Et) ∨ (isAt Em s = true ∧ E' = Et.eraseIdx i)) := by
  refine (TClose w.heap.size t b k Et s W h.ts h0 h1).mono fun e w' ⟨v, E', k', he, hk', ht, hst, hv, hc⟩ => ?_
  have e1 : ((Et[findAt Et s]?).map (·.2.2)).getD [] = listAt Em s := (listAt_pl hpl s).symm
  rw [e1, ← isAt_pl hpl s] at hv
  rw [← findAt_pl hpl s, ← isAt_pl hpl s, ← hi] at hc
  exact ⟨v, he, E', k', hk', h.step hst ht, hst, hv, hc⟩
theorem is_lt (hi : i = findAt Em s) (his : isAt Em s = true) : ∃ h : i < Em.length, Em[i].1 = s ∧ listAt Em s = Em[i].2.2 := by
  subst hi
  unfold isAt at his
  by_cases hlt : findAt Em s < Em.length
  · rw [List.getElem?_eq_getElem hlt] at his
    exact ⟨hlt, by simpa using his, by unfold listAt; rw [List.getElem?_eq_getElem hlt]; rfl⟩
  · rw [List.getElem?_eq_none (by omega)] at his
    cases his
end

end Go.Proofs.Ytgofngilfdnakaa
