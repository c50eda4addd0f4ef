/-
  This text proves how sessions of the law's model are laid behind others: no Go function is spoken of.
-/
import Derived.Test.YtgofngilfdnakaaSessL
namespace Go.Proofs.Ytgofngilfdnakaa
open Go Go.RowKit

theorem opCells_length : ∀ E : Es, (opCells E).length = E.length * 2
  | [] => rfl
  | e :: E => by
    have := opCells_length E
    unfold opCells at *
    rw [List.flatMap_cons, List.length_append, this, List.length_cons]
    simp only [List.length_cons, List.length_nil]
    omega
theorem opCells_append (E E' : Es) : opCells (E ++ E') = opCells E ++ opCells E' := by simp [opCells]
/-- Each value of the model is a slice. -/
def Slices (E : Es) : Prop := ∀ e ∈ E, ∃ a n c, e.2.1 = .slice a n c
theorem opCells_one {E : Es} (h : Slices E) : ∀ u ∈ opCells E, u.oneCell' = true := by
  intro u hu
  unfold opCells at hu
  obtain ⟨e, he, hu⟩ := List.mem_flatMap.1 hu
  rcases List.mem_cons.1 hu with rfl | hu
  · rfl
  · rw [List.mem_singleton.1 hu]
    obtain ⟨a, n, c, hv⟩ := h e he
    rw [hv]; rfl
theorem infoOp : ∃ i z, Try.prog.info? 81 = some i ∧ i.zero = some z ∧ i.size = 2 ∧ i.bytes = 32 ∧ z.cells.size = 2 := by
  obtain ⟨i, h1, h2, h3, h4⟩ := info_of (P := Try.prog) (t := 81) (z := .agg #[.int .i64 0, .slice none 0 0]) (n := 2) (b := 32) (by kernel_rfl)
  exact ⟨i, _, h1, h2, h3, h4, rfl⟩
/-- Sessions, out of a part of a row, are laid behind others. -/
theorem ops_append {W : World} {base c2 : Nat} {v : Value} {E E2 : Es} {ad : Addr} (ty : TypeId) (h : OpsAt W base v E) (hs : ∀ j u, (opCells E2)[j]? = some u → W.cell? (ad.add j) = some u) (hE : Slices E2) (hn : E.length + E2.length ≤ 1000000) (hb : base ≤ W.heap.size) :
    ∃ v' W', (Builtin.append_ #[72, 72] ty #[v, .slice (some ad) E2.length c2]).run Try.prog W = .ok v' W' ∧ OpsAt W' base v' (E ++ E2) ∧ W.grownBy W' v.ownBlock ∧ (v'.ownBlock = v.ownBlock ∨ v'.ownBlock = some W.heap.size) := by
  obtain ⟨i, z, hi, hz, hz1, hz2, hz3⟩ := infoOp
  by_cases h0 : E2.length = 0
  · have hl2 : E2 = [] := List.eq_nil_of_length_eq_zero h0
    subst hl2
    obtain ⟨a, c, rfl, hlc, _⟩ := h.cells
    refine ⟨_, W, run_append_nothing (P := Try.prog) W _ _ ty _ i Try.underlying72 hi a _ c hlc _ (Src.ofSlice W Try.underlying72 ad 0 c2 [] (by simp) (by simp) (by simp)), ?_, ⟨rfl, rfl, rfl, Nat.le_refl _, fun _ _ _ => rfl⟩, .inl rfl⟩
    rw [List.append_nil]
    exact h
  · obtain ⟨v', W', hrun, how, hgr, _, hblk⟩ := run_append_own_at (P := Try.prog) W base 72 ty 81 i z 2 32 Try.underlying72 hi hz hz1 hz2 hz3 (by omega) v E.length (opCells E) h
      ad E2.length c2 (opCells E2) (opCells_length E2) hs (opCells_one hE) (by rw [maxLen_eq]; omega) (by omega) hb
    refine ⟨v', W', hrun, ?_, hgr, hblk⟩
    unfold OpsAt
    rw [List.length_append, opCells_append]
    exact how

theorem opCells_set (u : Value) (L : List Nat) : ∀ (E : Es) (i : Nat) (hi : i < E.length), (opCells E).set (i * 2 + 1) u = opCells (E.set i (E[i].1, u, L))
  | [], i, hi => by simp at hi
  | e :: E, 0, _ => rfl
  | e :: E, i + 1, hi => by
    have hi' : i < E.length := by simpa using hi
    have ih := opCells_set u L E i hi'
    show ([Value.int .i64 e.1, e.2.1] ++ opCells E).set ((i + 1) * 2 + 1) u = [Value.int .i64 e.1, e.2.1] ++ opCells (E.set i (E[i].1, u, L))
    rw [← ih, show (i + 1) * 2 + 1 = i * 2 + 1 + 1 + 1 by omega]
    rfl
/-- A session's requests are laid anew in its place. -/
theorem ops_set {w : World} {base g n c i : Nat} {E : Es} (u : Value) (L : List Nat) (h : OpsAt w base (.slice (some ⟨g, 0, none⟩) n c) E) (hi : i < E.length) : OpsAt (w.setCell ⟨g, i * 2 + 1, none⟩ u) base (.slice (some ⟨g, 0, none⟩) n c) (E.set i (E[i].1, u, L)) := by
  rcases h.2 with ⟨hv, _⟩ | ⟨g', cap, cur, hv, hb, hg, hnc, hcm, hcs, ht⟩
  · cases hv
  · cases hv
    refine ⟨opCells_length _, .inr ⟨g, c, cur.setIfInBounds (i * 2 + 1) u, by rw [List.length_set], hb, by rw [heap_setCell_same, hg]; rfl, by rw [List.length_set]; exact hnc, hcm, by simpa using hcs, ?_⟩⟩
    rw [List.length_set, Array.toList_setIfInBounds, List.take_set, ht]
    exact opCells_set u L E i hi

end Go.Proofs.Ytgofngilfdnakaa
