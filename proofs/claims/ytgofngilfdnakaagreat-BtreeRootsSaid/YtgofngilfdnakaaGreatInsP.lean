/-
  This text proves, out of the library's contracts for slices.Insert: one value put into a row of the call's own; under bounds on lengths; at whatever program in which the library's function stands.
-/
import Derived.Test.YtgofngilfdnakaaGreatRow
import Derived.Shelf.Spec.SlicesInsertGrow
namespace Go.Proofs.YtgofngilfdnakaaGreat
open Go Go.RowKit Go.Shelf
variable {P : Program} {ρ : Ren}

theorem shape_heap {w : World} {b : Nat} {c : Array Value} {t : TypeId} {f : Nat × Nat} (h : w.heap[b]? = some (.cells c t f)) : w.shape? b = some (t, c.size) := by
  simp [World.shape?, h]
/-- What a row is behind one more. -/
def InsPost (base e : Nat) (v : Value) (n : Nat) (zs : List Value) (w : World) (en : Ending) (w' : World) : Prop :=
  ∃ a c, en = .returned (.slice a (n + 1) c) ∧ w'.ownsRow base e 1 (.slice a (n + 1) c) (n + 1) zs ∧ Mod (fun k => v.ownBlock = some k) w w' ∧ ((Value.slice a (n + 1) c).ownBlock = v.ownBlock ∨ ∃ q, (Value.slice a (n + 1) c).ownBlock = some q ∧ w.heap.size ≤ q)
theorem own_insert_string (L : Lays2.n22 P ρ) {base n i vb : Nat} {v x : Value} {xs : List Value} {w : World} (h : w.ownsRow base (ρ.t 9) 1 v n xs) (hi : i ≤ n) (hn : n ≤ 100000) (hb : base ≤ w.heap.size)
    (hx : w.heap[vb]? = some (.cells #[x] (ρ.t 9) (0, 0))) (hvb : v.ownBlock ≠ some vb) (h1 : ∀ u ∈ xs, u.oneCell' = true) (h1x : x.oneCell' = true) :
    Calls P (ρ.f 22) #[v, .int .i64 i, .slice (some ⟨vb, 0, none⟩) 1 1] w (InsPost base (ρ.t 9) v n (xs.take i ++ x :: xs.drop i) w) := by
  have hvs : ∀ j u, [x][j]? = some u → w.cell? ⟨vb, 0 + j, none⟩ = some u := fun j u hj => by
    have hj' : j = 0 := by have := (List.getElem?_eq_some_iff.1 hj).1; simp at this; exact this
    subst hj'
    rw [Nat.zero_add, cell_heap hx]
    simpa using hj
  have h1v : ∀ u ∈ [x], u.oneCell' = true := fun u hu => by rw [List.mem_singleton.1 hu]; exact h1x
  have endg : ∀ (bs : Option Addr) (c : Nat), v = .slice bs n c → n ≤ c → c < n + 1 → i = n → (bs = none → n = 0) → (∀ a, bs = some a → ∀ j u, xs[j]? = some u → w.cell? (a.add j) = some u) → xs.length = n →
      Calls P (ρ.f 22) #[v, .int .i64 i, .slice (some ⟨vb, 0, none⟩) 1 1] w (InsPost base (ρ.t 9) v n (xs.take i ++ x :: xs.drop i) w) := fun bs c hv hnc hc hin h0 hcs hl => by
    have hr := Any2.slices_Insert_string_end_grow L bs n c vb 0 1 1 xs [x] w (by omega) hnc hc (by omega) hl rfl h0 hcs hvs h1v
    subst hv
    subst hin
    refine hr.mono ?_
    rintro e w' ⟨rfl, rfl⟩
    refine ⟨_, _, rfl, own_mk hb (heap_alloc_new w.drew _) ?_ (grownCap_ge _ _ _ _) (grownCap_le_maxLen _ _ _ _ (by rw [maxLenIs]; omega)) ?_, ((Mod.refl _ _).drew.alloc _), .inr ⟨_, rfl, Nat.le_refl _⟩⟩
    · have := grownCap_ge w (i + 1) c (ρ.t 9)
      simp only [Array.size_append, List.size_toArray, List.length_append, size_zeroCells, List.length_cons, List.length_nil, hl]
      have hz : (Value.string ⟨#[]⟩).cells.size = 1 := rfl
      rw [hz]
      omega
    · simp only [Array.toList_append]
      rw [List.take_left' (by simp [hl]), List.take_of_length_le (by omega), List.drop_of_length_le (by omega)]
  rcases h.2 with ⟨rfl, h0⟩ | ⟨g, c, cur, rfl, hbg, hg, hnc, hcm, hcs, htk⟩
  · subst h0
    exact endg none 0 rfl (by omega) (by omega) (by omega) (fun _ => rfl) (fun a ha => by cases ha) (by have := h.1; omega)
  · have hl : xs.length = n := by have := h.1; omega
    rw [Nat.mul_one] at htk hcs
    have hgv : vb ≠ g := fun e => hvb (by rw [e]; rfl)
    have hcell : ∀ j u, xs[j]? = some u → w.cell? ⟨g, 0 + j, none⟩ = some u := fun j u hj => by
      have hj' := (List.getElem?_eq_some_iff.1 hj).1
      rw [Nat.zero_add, cell_heap hg]
      rw [← htk, List.getElem?_take, if_pos (by omega), Array.getElem?_toList] at hj
      exact hj
    have hcur : ∀ k : Nat, k < n → cur[k]? = xs[k]? := fun k hk => by rw [← htk, List.getElem?_take, if_pos hk, Array.getElem?_toList]
    rw [maxLenIs] at hcm
    by_cases hroom : n + 1 ≤ c
    · by_cases hin : i < n
      · have hr := Any2.slices_Insert_string_shift L g 0 n c i vb 0 1 1 xs [x] w hin (by omega) hroom hcm hgv hl rfl hcell (fun j hj => by rw [cell_heap hg]; simp; omega) (fun j hj => frozen_heap hg _) hvs h1 h1v _ _ _ _ (shape_heap hx) (shape_heap hg) (by omega) (frozen_heap hx _) (frozen_heap hx _)
        refine hr.mono ?_
        rintro e w' ⟨rfl, rfl⟩
        rw [show 0 + (i + 1) = i + 1 by omega, show 0 + i = i by omega]
        exact ⟨_, _, rfl, own_mk hbg (heap_lay1 g _ _ _ _ _ _ (heap_lay1 g _ _ _ _ _ _ hg)) (by rw [lay1_size, lay1_size]; exact hcs) hroom (by rw [maxLenIs]; exact hcm) (ins_take x (by omega) hi htk hl), mod_lay1 (G := fun k => some g = some k) g (fun _ => rfl) _ _ _ (mod_lay1 (G := fun k => some g = some k) g (fun _ => rfl) _ _ _ (Mod.refl _ _).drew), .inl rfl⟩
      · obtain rfl : i = n := by omega
        have hr := Any2.slices_Insert_string_end_room L g 0 i c vb 0 1 1 [x] w (by omega) hroom hcm rfl (fun j hj => by rw [cell_heap hg]; simp; omega) (fun j hj => frozen_heap hg _) hvs h1v
        refine hr.mono ?_
        rintro e w' ⟨rfl, rfl⟩
        rw [show 0 + i = i by omega]
        have e2 := ins_take2 (cur := cur) (xs := xs) (n := i) (i := i) x (by omega) (Nat.le_refl _) hcur hl
        have e3 : xs.drop i = [] := List.drop_of_length_le (by omega)
        rw [e3] at e2
        rw [e3]
        exact ⟨_, _, rfl, own_mk hbg (heap_lay1 g _ _ _ _ _ _ hg) (by rw [lay1_size]; exact hcs) hroom (by rw [maxLenIs]; exact hcm) e2, mod_lay1 (G := fun k => some g = some k) g (fun _ => rfl) _ _ _ (Mod.refl _ _), .inl rfl⟩
    · by_cases hin : i < n
      · have hr := Any2.slices_Insert_string_grow L g 0 n c i vb 0 1 1 xs [x] w hin (by omega) hnc (by omega) (by omega) hl rfl hcell hvs h1 h1v
        refine hr.mono ?_
        rintro e w' ⟨rfl, rfl⟩
        have hge := grownCap_ge w (n + 1) c (ρ.t 9)
        have hz : (Value.string ⟨#[]⟩).cells.size = 1 := rfl
        obtain ⟨c0, hc0⟩ : ∃ c0, c0 = (xs.take i).toArray ++ Builtin.zeroCells (Value.string ⟨#[]⟩).cells (n + 1 - i) ++ Builtin.zeroCells (Value.string ⟨#[]⟩).cells (grownCap w (n + 1) c (ρ.t 9) - (n + 1)) := ⟨_, rfl⟩
        have hs0 : c0.size = grownCap w (n + 1) c (ρ.t 9) := by
          rw [hc0]
          simp only [Array.size_append, List.size_toArray, List.length_take, size_zeroCells, hz]
          omega
        rw [← hc0]
        have e1 : (w.alloc (.cells c0 (ρ.t 9))).heap[w.heap.size]? = some (.cells c0 (ρ.t 9) (0, 0)) := heap_alloc_new _ _
        refine ⟨_, _, rfl, own_mk hb (heap_lay1 _ _ _ _ _ _ _ (heap_lay1 _ _ _ _ _ _ _ e1)) (by rw [lay1_size, lay1_size]; exact hs0) hge (grownCap_le_maxLen _ _ _ _ (by rw [maxLenIs]; omega)) (ins_take2 x (by omega) hi (fun k hk => ?_) hl), mod_lay1 _ (fun h => absurd h (Nat.lt_irrefl _)) _ _ _ (Mod.drew (mod_lay1 _ (fun h => absurd h (Nat.lt_irrefl _)) _ _ _ (Mod.drew ((Mod.refl _ _).alloc _)))), .inr ⟨_, rfl, Nat.le_refl _⟩⟩
        rw [hc0, ← Array.getElem?_toList, Array.toList_append, Array.toList_append, List.append_assoc, List.getElem?_append_left (by simp; omega)]
        show (xs.take i)[k]? = _
        rw [List.getElem?_take, if_pos hk]
      · have hadd : ∀ j : Nat, (⟨g, 0, none⟩ : Addr).add j = ⟨g, 0 + j, none⟩ := fun j => by unfold Addr.add; split <;> simp_all
        exact endg _ c rfl hnc (by omega) (by omega) (fun h => by cases h) (fun a ha j u hj => by cases ha; rw [hadd]; exact hcell j u hj) hl
theorem own_insert_int (L : Lays2.n21 P ρ) {base n i vb : Nat} {v x : Value} {xs : List Value} {w : World} (h : w.ownsRow base (ρ.t 3) 1 v n xs) (hi : i ≤ n) (hn : n ≤ 100000) (hb : base ≤ w.heap.size)
    (hx : w.heap[vb]? = some (.cells #[x] (ρ.t 3) (0, 0))) (hvb : v.ownBlock ≠ some vb) (h1 : ∀ u ∈ xs, u.oneCell' = true) (h1x : x.oneCell' = true) :
    Calls P (ρ.f 21) #[v, .int .i64 i, .slice (some ⟨vb, 0, none⟩) 1 1] w (InsPost base (ρ.t 3) v n (xs.take i ++ x :: xs.drop i) w) := by
  have hvs : ∀ j u, [x][j]? = some u → w.cell? ⟨vb, 0 + j, none⟩ = some u := fun j u hj => by
    have hj' : j = 0 := by have := (List.getElem?_eq_some_iff.1 hj).1; simp at this; exact this
    subst hj'
    rw [Nat.zero_add, cell_heap hx]
    simpa using hj
  have h1v : ∀ u ∈ [x], u.oneCell' = true := fun u hu => by rw [List.mem_singleton.1 hu]; exact h1x
  have endg : ∀ (bs : Option Addr) (c : Nat), v = .slice bs n c → n ≤ c → c < n + 1 → i = n → (bs = none → n = 0) → (∀ a, bs = some a → ∀ j u, xs[j]? = some u → w.cell? (a.add j) = some u) → xs.length = n →
      Calls P (ρ.f 21) #[v, .int .i64 i, .slice (some ⟨vb, 0, none⟩) 1 1] w (InsPost base (ρ.t 3) v n (xs.take i ++ x :: xs.drop i) w) := fun bs c hv hnc hc hin h0 hcs hl => by
    have hr := Any2.slices_Insert_int_end_grow L bs n c vb 0 1 1 xs [x] w (by omega) hnc hc (by omega) hl rfl h0 hcs hvs h1v
    subst hv
    subst hin
    refine hr.mono ?_
    rintro e w' ⟨rfl, rfl⟩
    refine ⟨_, _, rfl, own_mk hb (heap_alloc_new w.drew _) ?_ (grownCap_ge _ _ _ _) (grownCap_le_maxLen _ _ _ _ (by rw [maxLenIs]; omega)) ?_, ((Mod.refl _ _).drew.alloc _), .inr ⟨_, rfl, Nat.le_refl _⟩⟩
    · have := grownCap_ge w (i + 1) c (ρ.t 3)
      simp only [Array.size_append, List.size_toArray, List.length_append, size_zeroCells, List.length_cons, List.length_nil, hl]
      have hz : (Value.int .i64 0).cells.size = 1 := rfl
      rw [hz]
      omega
    · simp only [Array.toList_append]
      rw [List.take_left' (by simp [hl]), List.take_of_length_le (by omega), List.drop_of_length_le (by omega)]
  rcases h.2 with ⟨rfl, h0⟩ | ⟨g, c, cur, rfl, hbg, hg, hnc, hcm, hcs, htk⟩
  · subst h0
    exact endg none 0 rfl (by omega) (by omega) (by omega) (fun _ => rfl) (fun a ha => by cases ha) (by have := h.1; omega)
  · have hl : xs.length = n := by have := h.1; omega
    rw [Nat.mul_one] at htk hcs
    have hgv : vb ≠ g := fun e => hvb (by rw [e]; rfl)
    have hcell : ∀ j u, xs[j]? = some u → w.cell? ⟨g, 0 + j, none⟩ = some u := fun j u hj => by
      have hj' := (List.getElem?_eq_some_iff.1 hj).1
      rw [Nat.zero_add, cell_heap hg]
      rw [← htk, List.getElem?_take, if_pos (by omega), Array.getElem?_toList] at hj
      exact hj
    have hcur : ∀ k : Nat, k < n → cur[k]? = xs[k]? := fun k hk => by rw [← htk, List.getElem?_take, if_pos hk, Array.getElem?_toList]
    rw [maxLenIs] at hcm
    by_cases hroom : n + 1 ≤ c
    · by_cases hin : i < n
      · have hr := Any2.slices_Insert_int_shift L g 0 n c i vb 0 1 1 xs [x] w hin (by omega) hroom hcm hgv hl rfl hcell (fun j hj => by rw [cell_heap hg]; simp; omega) (fun j hj => frozen_heap hg _) hvs h1 h1v _ _ _ _ (shape_heap hx) (shape_heap hg) (by omega) (frozen_heap hx _) (frozen_heap hx _)
        refine hr.mono ?_
        rintro e w' ⟨rfl, rfl⟩
        rw [show 0 + (i + 1) = i + 1 by omega, show 0 + i = i by omega]
        exact ⟨_, _, rfl, own_mk hbg (heap_lay1 g _ _ _ _ _ _ (heap_lay1 g _ _ _ _ _ _ hg)) (by rw [lay1_size, lay1_size]; exact hcs) hroom (by rw [maxLenIs]; exact hcm) (ins_take x (by omega) hi htk hl), mod_lay1 (G := fun k => some g = some k) g (fun _ => rfl) _ _ _ (mod_lay1 (G := fun k => some g = some k) g (fun _ => rfl) _ _ _ (Mod.refl _ _).drew), .inl rfl⟩
      · obtain rfl : i = n := by omega
        have hr := Any2.slices_Insert_int_end_room L g 0 i c vb 0 1 1 [x] w (by omega) hroom hcm rfl (fun j hj => by rw [cell_heap hg]; simp; omega) (fun j hj => frozen_heap hg _) hvs h1v
        refine hr.mono ?_
        rintro e w' ⟨rfl, rfl⟩
        rw [show 0 + i = i by omega]
        have e2 := ins_take2 (cur := cur) (xs := xs) (n := i) (i := i) x (by omega) (Nat.le_refl _) hcur hl
        have e3 : xs.drop i = [] := List.drop_of_length_le (by omega)
        rw [e3] at e2
        rw [e3]
        exact ⟨_, _, rfl, own_mk hbg (heap_lay1 g _ _ _ _ _ _ hg) (by rw [lay1_size]; exact hcs) hroom (by rw [maxLenIs]; exact hcm) e2, mod_lay1 (G := fun k => some g = some k) g (fun _ => rfl) _ _ _ (Mod.refl _ _), .inl rfl⟩
    · by_cases hin : i < n
      · have hr := Any2.slices_Insert_int_grow L g 0 n c i vb 0 1 1 xs [x] w hin (by omega) hnc (by omega) (by omega) hl rfl hcell hvs h1 h1v
        refine hr.mono ?_
        rintro e w' ⟨rfl, rfl⟩
        have hge := grownCap_ge w (n + 1) c (ρ.t 3)
        have hz : (Value.int .i64 0).cells.size = 1 := rfl
        obtain ⟨c0, hc0⟩ : ∃ c0, c0 = (xs.take i).toArray ++ Builtin.zeroCells (Value.int .i64 0).cells (n + 1 - i) ++ Builtin.zeroCells (Value.int .i64 0).cells (grownCap w (n + 1) c (ρ.t 3) - (n + 1)) := ⟨_, rfl⟩
        have hs0 : c0.size = grownCap w (n + 1) c (ρ.t 3) := by
          rw [hc0]
          simp only [Array.size_append, List.size_toArray, List.length_take, size_zeroCells, hz]
          omega
        rw [← hc0]
        have e1 : (w.alloc (.cells c0 (ρ.t 3))).heap[w.heap.size]? = some (.cells c0 (ρ.t 3) (0, 0)) := heap_alloc_new _ _
        refine ⟨_, _, rfl, own_mk hb (heap_lay1 _ _ _ _ _ _ _ (heap_lay1 _ _ _ _ _ _ _ e1)) (by rw [lay1_size, lay1_size]; exact hs0) hge (grownCap_le_maxLen _ _ _ _ (by rw [maxLenIs]; omega)) (ins_take2 x (by omega) hi (fun k hk => ?_) hl), mod_lay1 _ (fun h => absurd h (Nat.lt_irrefl _)) _ _ _ (Mod.drew (mod_lay1 _ (fun h => absurd h (Nat.lt_irrefl _)) _ _ _ (Mod.drew ((Mod.refl _ _).alloc _)))), .inr ⟨_, rfl, Nat.le_refl _⟩⟩
        rw [hc0, ← Array.getElem?_toList, Array.toList_append, Array.toList_append, List.append_assoc, List.getElem?_append_left (by simp; omega)]
        show (xs.take i)[k]? = _
        rw [List.getElem?_take, if_pos hk]
      · have hadd : ∀ j : Nat, (⟨g, 0, none⟩ : Addr).add j = ⟨g, 0 + j, none⟩ := fun j => by unfold Addr.add; split <;> simp_all
        exact endg _ c rfl hnc (by omega) (by omega) (fun h => by cases h) (fun a ha j u hj => by cases ha; rw [hadd]; exact hcell j u hj) hl

end Go.Proofs.YtgofngilfdnakaaGreat
