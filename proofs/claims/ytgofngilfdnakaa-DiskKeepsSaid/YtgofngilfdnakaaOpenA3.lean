/-
  This text proves what the arguments of the law DiskKeeps are, as its walk wants them: what is done, in a slice; no Go function is spoken of.
-/
import Derived.Test.YtgofngilfdnakaaKeepG
import Derived.Test.YtgofngilfdnakaaBehind
import Derived.SliceStrings
import Derived.ChangeMaps5
namespace Go.Proofs.Ytgofngilfdnakaa
open Go Go.ChangeShapes Go.WideShapes Go.ChangeAt Go.RowKit

theorem k_cell_lt {w : World} {a : Addr} {v : Value} (h : w.cell? a = some v) : a.block < w.heap.size := by
  rcases Nat.lt_or_ge a.block w.heap.size with h1 | h1
  · exact h1
  · unfold World.cell? at h
    rw [Array.getElem?_eq_none h1] at h
    cases h
theorem k_list8 {cs : List Value} (h : cs.length = 8) : ∃ c0 c1 c2 c3 c4 c5 c6 c7, cs = [c0, c1, c2, c3, c4, c5, c6, c7] := by
  match cs, h with
  | [c0, c1, c2, c3, c4, c5, c6, c7], _ => exact ⟨c0, c1, c2, c3, c4, c5, c6, c7, rfl⟩
theorem k_size (s : ByteArray) : (⟨s.data.toList.toArray⟩ : ByteArray) = s := rfl
abbrev a3Cells (A : ActD) : List Value := [.int .i64 A.kind, .string ⟨A.name.toArray⟩, .string ⟨A.tt.toArray⟩, .string ⟨A.s.toArray⟩, .int .i64 A.n, .int .i64 A.f0, .int .i64 A.f1, .int .i64 A.f2]

set_option maxRecDepth 100000 in
/-- What is done, taken apart. -/
theorem act3_of_trod {H : Type} {enc : TypeId × Value → H} {W : World} {b0 fuel : Nat} {cs : List Value} {x : DataW H × List MemPlace} (hsz : cs.length = 8) (hfu : DataW.trod enc Try.prog W b0 (fun _ => true) true fuel 103 cs = some x) :
    ∃ (A : ActD), cs = a3Cells A ∧ A.name.length ≤ 9223372036854775807 ∧ A.tt.length ≤ 9223372036854775807 ∧ A.s.length ≤ 9223372036854775807 := by
  have hi : Try.prog.cellsOf 3 = 1 := by kernel_rfl
  have hs : Try.prog.cellsOf 9 = 1 := by kernel_rfl
  have hf : Try.prog.cellsOf 56 = 3 := by kernel_rfl
  obtain ⟨c0, c1, c2, c3, c4, c5, c6, c7, rfl⟩ := k_list8 hsz
  obtain ⟨xs, n, _, _, _, hlen, hx⟩ := DataW.trod_struct Try.underlying103 hfu
  have hlen6 : xs.length = 6 := hlen
  have get : ∀ i, i < 6 → ∃ y, xs[i]? = some y := fun i h => ⟨xs[i]'(by omega), List.getElem?_eq_getElem (by omega)⟩
  obtain ⟨y0, g0⟩ := get 0 (by omega)
  obtain ⟨y1, g1⟩ := get 1 (by omega)
  obtain ⟨y2, g2⟩ := get 2 (by omega)
  obtain ⟨y3, g3⟩ := get 3 (by omega)
  obtain ⟨y4, g4⟩ := get 4 (by omega)
  obtain ⟨y5, g5⟩ := get 5 (by omega)
  have h0 := (hx 0 _ rfl).trans g0
  have h1 := (hx 1 _ rfl).trans g1
  have h2 := (hx 2 _ rfl).trans g2
  have h3 := (hx 3 _ rfl).trans g3
  have h4 := (hx 4 _ rfl).trans g4
  have h5 := (hx 5 _ rfl).trans g5
  simp only [List.getElem_toArray, List.getElem_cons_zero, List.getElem_cons_succ, hi, hs, hf, List.drop_zero, List.drop_succ_cons, List.take_succ_cons, List.take_zero] at h0 h1 h2 h3 h4 h5
  obtain ⟨k, e0, _, _⟩ := DataW.trod_int Try.underlying3 h0
  obtain ⟨a, e1, _, wa⟩ := DataW.trod_string Try.underlying9 h1
  obtain ⟨b, e2, _, wb⟩ := DataW.trod_string Try.underlying9 h2
  obtain ⟨s, e3, _, ws⟩ := DataW.trod_string Try.underlying9 h3
  obtain ⟨q, e4, _, _⟩ := DataW.trod_int Try.underlying3 h4
  obtain ⟨zs, m, _, _, _, hlen3, hz⟩ := DataW.trod_struct Try.underlying56 h5
  have hlen3' : zs.length = 3 := hlen3
  have get3 : ∀ i, i < 3 → ∃ y, zs[i]? = some y := fun i h => ⟨zs[i]'(by omega), List.getElem?_eq_getElem (by omega)⟩
  obtain ⟨t0, u0⟩ := get3 0 (by omega)
  obtain ⟨t1, u1⟩ := get3 1 (by omega)
  obtain ⟨t2, u2⟩ := get3 2 (by omega)
  have k0 := (hz 0 _ rfl).trans u0
  have k1 := (hz 1 _ rfl).trans u1
  have k2 := (hz 2 _ rfl).trans u2
  simp only [List.getElem_toArray, List.getElem_cons_zero, List.getElem_cons_succ, hi, List.drop_zero, List.drop_succ_cons, List.take_succ_cons, List.take_zero] at k0 k1 k2
  obtain ⟨f0, e5, _, _⟩ := DataW.trod_int Try.underlying3 k0
  obtain ⟨f1, e6, _, _⟩ := DataW.trod_int Try.underlying3 k1
  obtain ⟨f2, e7, _, _⟩ := DataW.trod_int Try.underlying3 k2
  simp only [List.cons.injEq, and_true] at e0 e1 e2 e3 e4 e5 e6 e7
  subst e0 e1 e2 e3 e4 e5 e6 e7
  rw [maxLen_eq] at wa wb ws
  exact ⟨⟨k, a.data.toList, b.data.toList, s.data.toList, q, f0, f1, f2⟩, by simp only [a3Cells, k_size], wa, wb, ws⟩

set_option maxRecDepth 100000 in
theorem open_acts3 {H : Type} {enc : TypeId × Value → H} {W : World} {r : Reach} {b0 : Nat} {v : Value} {d : DataW H} {ps : List MemPlace} (hval : Value.okWide Try.prog W r b0 94 v) (hd : DataW.Trod enc Try.prog W 0 (fun _ => true) true 94 v d ps) : ∃ ls, Acts3In W v ls := by
  have hc : Try.prog.cellsOf 103 = 8 := by kernel_rfl
  obtain ⟨a0, len, cap, rfl⟩ := okWide_slice Try.underlying94 hval
  obtain ⟨fuel, hf⟩ := hd
  rcases DataW.trod_slice Try.underlying94 hf with ⟨hcs, hx⟩ | ⟨a, len', cap', elems, rest, n, _, hcs, _, hb, hl, hm, hlen, hel, _, _⟩
  · simp [Value.cells] at hcs
    obtain ⟨rfl, rfl, rfl⟩ := hcs
    exact ⟨[], none, 0, rfl, Nat.le_refl _, by rw [maxLen_eq]; omega, fun i hi => absurd hi (Nat.not_lt_zero _)⟩
  · simp [Value.cells] at hcs
    obtain ⟨rfl, rfl, rfl⟩ := hcs
    have each : ∀ i, i < len → ∃ A : ActD, (∀ j, j < 8 → W.cell? ((a.add (i * 8)).add j) = (a3Cells A)[j]?) ∧ A.name.length ≤ 9223372036854775807 ∧ A.tt.length ≤ 9223372036854775807 ∧ A.s.length ≤ 9223372036854775807 := fun i hi => by
      have h1 := hel i hi
      rw [hc, List.getElem?_eq_getElem (by omega), Option.bind_eq_some_iff] at h1
      obtain ⟨cs, h2, h3⟩ := h1
      obtain ⟨_, h4, h5⟩ := World.cells?_some h2
      obtain ⟨A, rfl, h6⟩ := act3_of_trod h4 h3
      exact ⟨A, h5, h6⟩
    obtain ⟨b, off, spot⟩ := a
    refine ⟨(List.range len).attach.map (fun i => Classical.choose (each i.1 (List.mem_range.1 i.2))), some ⟨b, off, spot⟩, cap, by simp, by simpa using hl, hm, fun i hi => ?_⟩
    have hi' : i < len := by simpa using hi
    have hA := Classical.choose_spec (each i hi')
    simp only [List.getElem_map, List.getElem_attach, List.getElem_range]
    generalize Classical.choose (each i hi') = A at *
    obtain ⟨h1, h2⟩ := hA
    have hspot : spot = none := by
      obtain ⟨A0, h0, _⟩ := each 0 (by omega)
      simpa [Addr.add] using World.cell?_spot (h0 0 (by omega))
    subst hspot
    have at_ : ∀ j, j < 8 → W.cell? ⟨b, off + i * 8 + j, none⟩ = (a3Cells A)[j]? := fun j hj => by
      have := h1 j hj
      rwa [Addr.add_mid, Addr.add_mid] at this
    exact ⟨b, off, rfl, k_cell_lt (at_ 0 (by omega)), at_ 0 (by omega), at_ 1 (by omega), at_ 2 (by omega), at_ 3 (by omega), at_ 4 (by omega), at_ 5 (by omega), at_ 6 (by omega), at_ 7 (by omega), h2⟩

end Go.Proofs.Ytgofngilfdnakaa
