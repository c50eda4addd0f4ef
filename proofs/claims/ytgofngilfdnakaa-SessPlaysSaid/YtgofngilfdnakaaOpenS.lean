/-
  This text proves what the argument of the law SessPlays is, as its walk wants it: what is done, in a slice; no Go function is spoken of.
-/
import Derived.Test.YtgofngilfdnakaaSessJ
import Derived.Test.YtgofngilfdnakaaBehind
import Derived.SliceStrings
import Derived.ChangeMaps5
namespace Go.Proofs.Ytgofngilfdnakaa
open Go Go.ChangeShapes Go.WideShapes Go.ChangeAt Go.RowKit

theorem s_int_range {n : Int} (h : (Lit.int .i64 n).wf = true) : -9223372036854775808 ≤ n ∧ n ≤ 9223372036854775807 := by
  simp only [Lit.wf, Bool.and_eq_true, decide_eq_true_eq] at h
  exact h
theorem s_u32_range {n : Int} (h : (Lit.int .u32 n).wf = true) : 0 ≤ n := by
  simp only [Lit.wf, Bool.and_eq_true, decide_eq_true_eq] at h
  exact h.1
theorem s_cell_lt {w : World} {a : Addr} {v : Value} (h : w.cell? a = some v) : a.block < w.heap.size := by
  rcases Nat.lt_or_ge a.block w.heap.size with h1 | h1
  · exact h1
  · unfold World.cell? at h
    rw [Array.getElem?_eq_none h1] at h
    cases h
theorem s_list3 {cs : List Value} (h : cs.length = 3) : ∃ c0 c1 c2, cs = [c0, c1, c2] := by
  match cs, h with
  | [c0, c1, c2], _ => exact ⟨c0, c1, c2, rfl⟩

set_option maxRecDepth 100000 in
/-- What is done, taken apart. -/
theorem act20_of_trod {H : Type} {enc : TypeId × Value → H} {W : World} {b0 fuel : Nat} {cs : List Value} {x : DataW H × List MemPlace} (hsz : cs.length = 3) (hfu : DataW.trod enc Try.prog W b0 (fun _ => true) true fuel 75 cs = some x) :
    ∃ (A : Act20), cs = [.int .i64 A.kind, .int .i64 A.s, .int .u32 A.n] ∧ -9223372036854775808 ≤ A.s ∧ A.s ≤ 9223372036854775807 := by
  have hi : Try.prog.cellsOf 3 = 1 := by kernel_rfl
  have hu : Try.prog.cellsOf 73 = 1 := by kernel_rfl
  obtain ⟨c0, c1, c2, rfl⟩ := s_list3 hsz
  obtain ⟨xs, n, _, _, _, hlen, hx⟩ := DataW.trod_struct Try.underlying75 hfu
  have hlen3 : xs.length = 3 := hlen
  have get : ∀ i, i < 3 → ∃ y, xs[i]? = some y := fun i h => ⟨xs[i]'(by omega), List.getElem?_eq_getElem (by omega)⟩
  obtain ⟨y0, g0⟩ := get 0 (by omega)
  obtain ⟨y1, g1⟩ := get 1 (by omega)
  obtain ⟨y2, g2⟩ := get 2 (by omega)
  have h0 := (hx 0 _ rfl).trans g0
  have h1 := (hx 1 _ rfl).trans g1
  have h2 := (hx 2 _ rfl).trans g2
  simp only [List.getElem_toArray, List.getElem_cons_zero, List.getElem_cons_succ, hi, hu, List.drop_zero, List.drop_succ_cons, List.take_succ_cons, List.take_zero] at h0 h1 h2
  obtain ⟨k, e0, _, _⟩ := DataW.trod_int Try.underlying3 h0
  obtain ⟨s, e1, _, ws⟩ := DataW.trod_int Try.underlying3 h1
  obtain ⟨q, e2, _, wq⟩ := DataW.trod_int Try.underlying73 h2
  simp only [List.cons.injEq, and_true] at e0 e1 e2
  subst e0 e1 e2
  have ws' := s_int_range ws
  obtain ⟨m, rfl⟩ := Int.eq_ofNat_of_zero_le (s_u32_range wq)
  exact ⟨⟨k, s, m⟩, rfl, ws'.1, ws'.2⟩

set_option maxRecDepth 100000 in
theorem open_acts20 {H : Type} {enc : TypeId × Value → H} {W : World} {r : Reach} {b0 : Nat} {v : Value} {d : DataW H} {ps : List MemPlace} (hval : Value.okWide Try.prog W r b0 69 v) (hd : DataW.Trod enc Try.prog W 0 (fun _ => true) true 69 v d ps) : ∃ ls, Acts20In W v ls := by
  have hc : Try.prog.cellsOf 75 = 3 := by kernel_rfl
  obtain ⟨a0, len, cap, rfl⟩ := okWide_slice Try.underlying69 hval
  obtain ⟨fuel, hf⟩ := hd
  rcases DataW.trod_slice Try.underlying69 hf with ⟨hcs, hx⟩ | ⟨a, len', cap', elems, rest, n, _, hcs, _, hb, hl, hm, hlen, hel, _, _⟩
  · simp [Value.cells] at hcs
    obtain ⟨rfl, rfl, rfl⟩ := hcs
    exact ⟨[], none, 0, rfl, Nat.le_refl _, by rw [maxLen_eq]; omega, fun i hi => absurd hi (Nat.not_lt_zero _)⟩
  · simp [Value.cells] at hcs
    obtain ⟨rfl, rfl, rfl⟩ := hcs
    have each : ∀ i, i < len → ∃ A : Act20, (∀ j, j < 3 → W.cell? ((a.add (i * 3)).add j) = [Value.int .i64 A.kind, .int .i64 A.s, .int .u32 A.n][j]?) ∧ -9223372036854775808 ≤ A.s ∧ A.s ≤ 9223372036854775807 := fun i hi => by
      have h1 := hel i hi
      rw [hc, List.getElem?_eq_getElem (by omega), Option.bind_eq_some_iff] at h1
      obtain ⟨cs, h2, h3⟩ := h1
      obtain ⟨_, h4, h5⟩ := World.cells?_some h2
      obtain ⟨A, rfl, h6⟩ := act20_of_trod h4 h3
      exact ⟨A, h5, h6⟩
    obtain ⟨b, off, spot⟩ := a
    refine ⟨(List.range len).attach.map (fun i => Classical.choose (each i.1 (List.mem_range.1 i.2))), some ⟨b, off, spot⟩, cap, by simp, by simpa using hl, hm, fun i hi => ?_⟩
    have hi' : i < len := by simpa using hi
    have hA := Classical.choose_spec (each i hi')
    simp only [List.getElem_map, List.getElem_attach, List.getElem_range]
    generalize Classical.choose (each i hi') = A at *
    obtain ⟨h1, h2⟩ := hA
    have hspot : spot = none := by
      obtain ⟨A0, h0, _⟩ := each 0 (by omega)
      simpa [Addr.add] using World.cell?_spot (h0 0 (by omega))
    subst hspot
    have at_ : ∀ j, j < 3 → W.cell? ⟨b, off + i * 3 + j, none⟩ = [Value.int .i64 A.kind, .int .i64 A.s, .int .u32 A.n][j]? := fun j hj => by
      have := h1 j hj
      rwa [Addr.add_mid, Addr.add_mid] at this
    exact ⟨b, off, rfl, s_cell_lt (at_ 0 (by omega)), at_ 0 (by omega), at_ 1 (by omega), at_ 2 (by omega), h2⟩

end Go.Proofs.Ytgofngilfdnakaa
