/-
  This text proves what the arguments of a law are, as its walk wants them: what is done, in a slice; no Go function is spoken of.
-/
import Derived.Test.YtgofngilfdnakaaOpens
import Derived.Test.YtgofngilfdnakaaLawV
namespace Go.Proofs.Ytgofngilfdnakaa
open Go Go.ChangeShapes Go.WideShapes Go.ChangeAt Go.RowKit

set_option maxRecDepth 100000 in
/-- Texts in a slice, of a cell. -/
theorem strs_of_trod {H : Type} {enc : TypeId × Value → H} {W : World} {b0 fuel : Nat} {c : Value} {x : DataW H × List MemPlace} {t e : TypeId} (ht : Try.prog.underlying t = some (.slice e)) (he : Try.prog.underlying e = some .string) (hc : Try.prog.cellsOf e = 1)
    (hf : DataW.trod enc Try.prog W b0 (fun _ => true) true fuel t [c] = some x) : ∃ ls : List Str, StrsIn W c ls ∧ ∀ s ∈ ls, s.length ≤ 9223372036854775807 := by
  rcases open_strings ht he hc hf with ⟨hcs, hx⟩ | ⟨a, len, cap, ss, hcs, _, hl, hm, hz, hx, hcell, hws⟩
  · simp only [List.cons.injEq, and_true] at hcs
    subst hcs
    exact ⟨[], ⟨none, 0, rfl, Nat.le_refl _, by rw [maxLen_eq]; omega, fun i hi => absurd hi (Nat.not_lt_zero _)⟩, fun s hs => (by cases hs)⟩
  · simp only [List.cons.injEq, and_true] at hcs
    subst hcs
    simp only [if_true] at hz
    obtain ⟨b, off, spot⟩ := a
    have hlen : ((ss.take len).map fun s => s.data.toList).length = len := by simp; omega
    refine ⟨(ss.take len).map (fun s => s.data.toList), ⟨some ⟨b, off, spot⟩, cap, by rw [hlen], by rw [hlen]; exact hl, hm, fun i hi => ?_⟩, fun s hs => ?_⟩
    · rw [hlen] at hi
      have hspot : spot = none := by simpa [Addr.add] using World.cell?_spot (hcell 0 (by omega))
      subst hspot
      refine ⟨b, off, rfl, cell_lt' (hcell 0 (by omega)), ?_⟩
      have h1 := hcell i (by omega)
      rw [add_plain] at h1
      rw [h1]
      rw [List.getElem?_map, List.getElem?_take_of_lt hi, List.getElem?_eq_getElem (by omega)]
      simp only [Option.map_some, Option.getD_some, List.getD, List.getElem?_eq_getElem (show i < ss.length by omega)]
    · obtain ⟨x, hx, rfl⟩ := List.mem_map.1 hs
      have := hws x (List.mem_of_mem_take hx)
      rw [maxLen_eq] at this
      exact this

theorem list7 {cs : List Value} (h : cs.length = 7) : ∃ c0 c1 c2 c3 c4 c5 c6, cs = [c0, c1, c2, c3, c4, c5, c6] := by
  match cs, h with
  | [c0, c1, c2, c3, c4, c5, c6], _ => exact ⟨c0, c1, c2, c3, c4, c5, c6, rfl⟩

set_option maxRecDepth 100000 in
/-- What is done, taken apart. -/
theorem act4_of_trod {H : Type} {enc : TypeId × Value → H} {W : World} {b0 fuel : Nat} {cs : List Value} {x : DataW H × List MemPlace} (hsz : cs.length = 7) (hfu : DataW.trod enc Try.prog W b0 (fun _ => true) true fuel 64 cs = some x) :
    ∃ (A : ActD), cs = [.int .i64 A.kind, .int .i64 A.n, .string ⟨A.s.toArray⟩, A.lv, .int .i64 A.f0, .int .i64 A.f1, .int .i64 A.f2] ∧ StrsIn W A.lv A.ls ∧ (∀ s ∈ A.ls, s.length ≤ 9223372036854775807) ∧ A.s.length ≤ 9223372036854775807 ∧ -9223372036854775808 ≤ A.n ∧ A.n ≤ 9223372036854775807 := by
  have hi : Try.prog.cellsOf 3 = 1 := by kernel_rfl
  have hs : Try.prog.cellsOf 9 = 1 := by kernel_rfl
  have hl : Try.prog.cellsOf 22 = 1 := by kernel_rfl
  have hf : Try.prog.cellsOf 56 = 3 := by kernel_rfl
  obtain ⟨c0, c1, c2, c3, c4, c5, c6, rfl⟩ := list7 hsz
  obtain ⟨xs, n, _, _, _, hlen, hx⟩ := DataW.trod_struct Try.underlying64 hfu
  have hlen6 : xs.length = 5 := hlen
  have get : ∀ i, i < 5 → ∃ y, xs[i]? = some y := fun i h => ⟨xs[i]'(by omega), List.getElem?_eq_getElem (by omega)⟩
  obtain ⟨y0, g0⟩ := get 0 (by omega)
  obtain ⟨y1, g1⟩ := get 1 (by omega)
  obtain ⟨y2, g2⟩ := get 2 (by omega)
  obtain ⟨y3, g3⟩ := get 3 (by omega)
  obtain ⟨y4, g4⟩ := get 4 (by omega)
  have h0 := (hx 0 _ rfl).trans g0
  have h1 := (hx 1 _ rfl).trans g1
  have h2 := (hx 2 _ rfl).trans g2
  have h3 := (hx 3 _ rfl).trans g3
  have h4 := (hx 4 _ rfl).trans g4
  simp only [List.getElem_toArray, List.getElem_cons_zero, List.getElem_cons_succ, hi, hs, hl, hf, List.drop_zero, List.drop_succ_cons, List.take_succ_cons, List.take_zero] at h0 h1 h2 h3 h4
  obtain ⟨k, e0, _, _⟩ := DataW.trod_int Try.underlying3 h0
  obtain ⟨q, e1, _, wq⟩ := DataW.trod_int Try.underlying3 h1
  obtain ⟨s, e2, _, ws⟩ := DataW.trod_string Try.underlying9 h2
  obtain ⟨ls, hls, hlb⟩ := strs_of_trod Try.underlying22 Try.underlying9 hs h3
  obtain ⟨zs, m, _, _, _, hlen3, hz⟩ := DataW.trod_struct Try.underlying56 h4
  have hlen3' : zs.length = 3 := hlen3
  have get3 : ∀ i, i < 3 → ∃ y, zs[i]? = some y := fun i h => ⟨zs[i]'(by omega), List.getElem?_eq_getElem (by omega)⟩
  obtain ⟨t0, u0⟩ := get3 0 (by omega)
  obtain ⟨t1, u1⟩ := get3 1 (by omega)
  obtain ⟨t2, u2⟩ := get3 2 (by omega)
  have k0 := (hz 0 _ rfl).trans u0
  have k1 := (hz 1 _ rfl).trans u1
  have k2 := (hz 2 _ rfl).trans u2
  simp only [List.getElem_toArray, List.getElem_cons_zero, List.getElem_cons_succ, hi, List.drop_zero, List.drop_succ_cons, List.take_succ_cons, List.take_zero] at k0 k1 k2
  obtain ⟨f0, e5, _, _⟩ := DataW.trod_int Try.underlying3 k0
  obtain ⟨f1, e6, _, _⟩ := DataW.trod_int Try.underlying3 k1
  obtain ⟨f2, e7, _, _⟩ := DataW.trod_int Try.underlying3 k2
  simp only [List.cons.injEq, and_true] at e0 e1 e2 e5 e6 e7
  subst e0 e1 e2 e5 e6 e7
  have wq' := int_range wq
  rw [maxLen_eq] at ws
  exact ⟨⟨k, q, s.data.toList, c3, ls, f0, f1, f2⟩, by simp only [← str_size], hls, hlb, ws, wq'.1, wq'.2⟩

set_option maxRecDepth 100000 in
theorem open_acts4 {H : Type} {enc : TypeId × Value → H} {W : World} {r : Reach} {b0 : Nat} {v : Value} {d : DataW H} {ps : List MemPlace} (hval : Value.okWide Try.prog W r b0 62 v) (hd : DataW.Trod enc Try.prog W 0 (fun _ => true) true 62 v d ps) : ∃ ls, ActsIn W v ls := by
  have hc : Try.prog.cellsOf 64 = 7 := by kernel_rfl
  obtain ⟨a0, len, cap, rfl⟩ := okWide_slice Try.underlying62 hval
  obtain ⟨fuel, hf⟩ := hd
  rcases DataW.trod_slice Try.underlying62 hf with ⟨hcs, hx⟩ | ⟨a, len', cap', elems, rest, n, _, hcs, _, hb, hl, hm, hlen, hel, _, _⟩
  · simp [Value.cells] at hcs
    obtain ⟨rfl, rfl, rfl⟩ := hcs
    exact ⟨[], none, 0, rfl, Nat.le_refl _, by rw [maxLen_eq]; omega, fun i hi => absurd hi (Nat.not_lt_zero _)⟩
  · simp [Value.cells] at hcs
    obtain ⟨rfl, rfl, rfl⟩ := hcs
    have each : ∀ i, i < len → ∃ A : ActD, (∀ j, j < 7 → W.cell? ((a.add (i * 7)).add j) = [Value.int .i64 A.kind, .int .i64 A.n, .string ⟨A.s.toArray⟩, A.lv, .int .i64 A.f0, .int .i64 A.f1, .int .i64 A.f2][j]?) ∧ StrsIn W A.lv A.ls ∧ (∀ s ∈ A.ls, s.length ≤ 9223372036854775807) ∧ A.s.length ≤ 9223372036854775807 ∧ -9223372036854775808 ≤ A.n ∧ A.n ≤ 9223372036854775807 := fun i hi => by
      have h1 := hel i hi
      rw [hc, List.getElem?_eq_getElem (by omega), Option.bind_eq_some_iff] at h1
      obtain ⟨cs, h2, h3⟩ := h1
      obtain ⟨_, h4, h5⟩ := World.cells?_some h2
      obtain ⟨A, rfl, h6⟩ := act4_of_trod h4 h3
      exact ⟨A, h5, h6⟩
    obtain ⟨b, off, spot⟩ := a
    refine ⟨(List.range len).attach.map (fun i => Classical.choose (each i.1 (List.mem_range.1 i.2))), some ⟨b, off, spot⟩, cap, by simp, by simpa using hl, hm, fun i hi => ?_⟩
    have hi' : i < len := by simpa using hi
    have hA := Classical.choose_spec (each i hi')
    simp only [List.getElem_map, List.getElem_attach, List.getElem_range]
    generalize Classical.choose (each i hi') = A at *
    obtain ⟨h1, h2⟩ := hA
    have hspot : spot = none := by
      obtain ⟨A0, h0, _⟩ := each 0 (by omega)
      simpa [Addr.add] using World.cell?_spot (h0 0 (by omega))
    subst hspot
    have at_ : ∀ j, j < 7 → W.cell? ⟨b, off + i * 7 + j, none⟩ = [Value.int .i64 A.kind, .int .i64 A.n, .string ⟨A.s.toArray⟩, A.lv, .int .i64 A.f0, .int .i64 A.f1, .int .i64 A.f2][j]? := fun j hj => by
      have := h1 j hj
      rwa [add_plain, add_plain] at this
    exact ⟨b, off, rfl, cell_lt' (at_ 0 (by omega)), at_ 0 (by omega), at_ 1 (by omega), at_ 2 (by omega), at_ 3 (by omega), at_ 4 (by omega), at_ 5 (by omega), at_ 6 (by omega), h2⟩

end Go.Proofs.Ytgofngilfdnakaa
