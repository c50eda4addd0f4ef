/-
  This text proves, out of the library's contract for slices.Delete: one value taken out of a row of the call's own; under bounds on lengths; at whatever program in which the library's function stands.
-/
import Derived.Test.YtgofngilfdnakaaGreatRow
import Derived.Shelf.SlicesE.Delete
namespace Go.Proofs.YtgofngilfdnakaaGreat
open Go Go.RowKit Go.Shelf
variable {P : Program} {ρ : Ren} {α : Type} [Inhabited α]

/-- What a row is behind one less. -/
def DelPost (base e : Nat) (v : Value) (n : Nat) (zs : List Value) (w : World) (en : Ending) (w' : World) : Prop :=
  ∃ a c, v = .slice a n c ∧ en = .returned (.slice a (n - 1) c) ∧ w'.ownsRow base e 1 (.slice a (n - 1) c) (n - 1) zs ∧ Mod (fun k => v.ownBlock = some k) w w'
theorem heap_putRow (enc : α → Value) (w : World) (g : Nat) (q : Nat) (d : Array α) {cur : Array Value} {t : TypeId} {f : Nat × Nat} (h : w.heap[g]? = some (.cells cur t f)) : (Sort.putRow enc (Sort.ahead w q) g 0 d).heap[g]? = some (.cells (Sort.putCells enc 0 d cur) t f) := by
  unfold Sort.putRow Sort.mapBlock Sort.ahead
  simp only [Array.getElem?_modify, if_true, h]
  rfl
theorem mod_putRow (enc : α → Value) (w : World) (g : Nat) (q : Nat) (d : Array α) : Mod (fun k => some g = some k) w (Sort.putRow enc (Sort.ahead w q) g 0 d) := by
  refine ⟨rfl, rfl, rfl, by simp [Sort.putRow, Sort.mapBlock, Sort.ahead], fun k hk hn => ?_⟩
  unfold Sort.putRow Sort.mapBlock Sort.ahead
  simp only [Array.getElem?_modify]
  rw [if_neg (fun e => hn (by rw [e]))]
theorem own_delete (L : SlLaysE.n45 P ρ) (enc : α → Value) (h1 : OneCell enc) (zr : α) (v23 : ∀ w, (zeroValue (ρ.t 23)).run P w = .ok (enc zr) w) {i0 : TypeInfo} (hi0 : P.info? (ρ.t 23) = some i0) (hz1 : i0.size = 1) {base i n : Nat} {v : Value} {d : List α} {w : World}
    (h : w.ownsRow base (ρ.t 23) 1 v n (d.map enc)) (hi : i < n) (hn : n ≤ 100000) :
    Calls P (ρ.f 45) #[v, .int .i64 i, .int .i64 ((i : Int) + 1)] w (DelPost base (ρ.t 23) v n ((d.eraseIdx i).map enc) w) := by
  rcases h.2 with ⟨_, h0⟩ | ⟨g, c, cur, rfl, hbg, hg, hnc, hcm, hcs, htk⟩
  · omega
  · have hl : d.length = n := by have := h.1; simpa using this
    subst hl
    rw [Nat.mul_one] at htk hcs
    have hH : Sort.Holds enc w g 0 d.toArray := fun j hj => by
      have hj' : j < d.length := by simpa using hj
      refine ⟨?_, frozen_heap hg _⟩
      have e : (d.map enc)[j]? = some (enc d[j]) := by rw [List.getElem?_map, List.getElem?_eq_getElem hj']; rfl
      rw [Nat.zero_add, cell_heap hg]
      rw [← htk, List.getElem?_take, if_pos hj', Array.getElem?_toList] at e
      rw [e]
      simp [hj']
    rw [maxLenIs] at hcm
    have hr := AnyE.slices_Delete L enc h1 zr v23 i0 hi0 hz1 g 0 c i (i + 1) d.toArray w hH (by simpa using hnc) (by omega) (by omega) (by simp; omega)
    have hsz : d.toArray.size = d.length := by simp
    rw [hsz] at hr
    refine hr.mono ?_
    rintro e w' ⟨rfl, q, rfl⟩
    rw [show d.length - (i + 1 - i) = d.length - 1 by omega]
    refine ⟨_, _, rfl, rfl, own_mk hbg (heap_putRow enc w g q _ hg) (by simp [Sort.putCells]; exact hcs) (by omega) (by rw [maxLenIs]; omega) ?_, mod_putRow _ _ _ _ _⟩
    apply List.ext_getElem?
    intro j
    rw [List.getElem?_take]
    split
    · rename_i hj
      rw [Array.getElem?_toList]
      unfold Sort.putCells
      rw [Array.getElem?_mapIdx, Array.getElem?_eq_getElem (by omega), Option.map_some, if_pos (by simp; omega), List.getElem?_map, List.getElem?_eraseIdx]
      simp only [Nat.sub_zero]
      have hgo : ∀ (l : List α) (y : α), l[j]? = some y → (l.toArray)[j]! = y := fun l y hy => by simp [hy]
      by_cases h2 : j < i
      · rw [if_pos h2, List.getElem?_eq_getElem (by omega), hgo _ d[j]]
        · rfl
        · rw [List.append_assoc, List.getElem?_append_left (by simp; omega)]
          simp [h2]
      · rw [if_neg h2, List.getElem?_eq_getElem (by omega), hgo _ d[j + 1]]
        · rfl
        · rw [List.append_assoc, List.getElem?_append_right (by simp; omega), List.getElem?_append_left (by simp; omega)]
          simp only [List.getElem?_drop, List.length_take]
          rw [Nat.min_eq_left (by omega), show i + 1 + (j - i) = j + 1 by omega, List.getElem?_eq_getElem (by omega)]
    · rw [List.getElem?_eq_none]
      rw [List.length_map, List.length_eraseIdx, if_pos hi]
      omega

end Go.Proofs.YtgofngilfdnakaaGreat
