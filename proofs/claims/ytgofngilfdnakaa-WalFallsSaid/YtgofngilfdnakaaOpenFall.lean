/-
  This text proves what the arguments of a law are, as its walk wants them: falls in a slice; no Go function is spoken of.
-/
import Derived.Test.YtgofngilfdnakaaOpens
import Derived.Test.YtgofngilfdnakaaDiskP
namespace Go.Proofs.Ytgofngilfdnakaa
open Go Go.ChangeShapes Go.WideShapes Go.ChangeAt Go.RowKit

/-- Falls in a slice. -/
def FallsIn (w : World) (v : Value) (l : List Fall) : Prop := ∃ a cap, v = .slice a l.length cap ∧ l.length ≤ cap ∧ cap ≤ maxLen ∧ ∀ i, (hi : i < l.length) → ∃ b o, a = some ⟨b, o, none⟩ ∧ b < w.heap.size ∧
  w.cell? ⟨b, o + i * 3, none⟩ = some (.int .i64 l[i].pos) ∧ w.cell? ⟨b, o + i * 3 + 1, none⟩ = some (.int .i64 l[i].keep) ∧ w.cell? ⟨b, o + i * 3 + 2, none⟩ = some (.int .i64 l[i].torn) ∧ -9223372036854775808 ≤ l[i].pos ∧ l[i].pos ≤ 9223372036854775807

theorem list3 {cs : List Value} (h : cs.length = 3) : ∃ c0 c1 c2, cs = [c0, c1, c2] := by
  match cs, h with
  | [c0, c1, c2], _ => exact ⟨c0, c1, c2, rfl⟩

set_option maxRecDepth 100000 in
/-- A fall, taken apart. -/
theorem fall_of_trod {H : Type} {enc : TypeId × Value → H} {W : World} {b0 fuel : Nat} {cs : List Value} {x : DataW H × List MemPlace} (hsz : cs.length = 3) (hfu : DataW.trod enc Try.prog W b0 (fun _ => true) true fuel 56 cs = some x) :
    ∃ (f : Fall), cs = [.int .i64 f.pos, .int .i64 f.keep, .int .i64 f.torn] ∧ -9223372036854775808 ≤ f.pos ∧ f.pos ≤ 9223372036854775807 := by
  have hi : Try.prog.cellsOf 3 = 1 := by kernel_rfl
  obtain ⟨c0, c1, c2, rfl⟩ := list3 hsz
  obtain ⟨zs, m, _, _, _, hlen3, hz⟩ := DataW.trod_struct Try.underlying56 hfu
  have hlen3' : zs.length = 3 := hlen3
  have get3 : ∀ i, i < 3 → ∃ y, zs[i]? = some y := fun i h => ⟨zs[i]'(by omega), List.getElem?_eq_getElem (by omega)⟩
  obtain ⟨t0, u0⟩ := get3 0 (by omega)
  obtain ⟨t1, u1⟩ := get3 1 (by omega)
  obtain ⟨t2, u2⟩ := get3 2 (by omega)
  have k0 := (hz 0 _ rfl).trans u0
  have k1 := (hz 1 _ rfl).trans u1
  have k2 := (hz 2 _ rfl).trans u2
  simp only [List.getElem_toArray, List.getElem_cons_zero, List.getElem_cons_succ, hi, List.drop_zero, List.drop_succ_cons, List.take_succ_cons, List.take_zero] at k0 k1 k2
  obtain ⟨f0, e5, _, w5⟩ := DataW.trod_int Try.underlying3 k0
  obtain ⟨f1, e6, _, _⟩ := DataW.trod_int Try.underlying3 k1
  obtain ⟨f2, e7, _, _⟩ := DataW.trod_int Try.underlying3 k2
  simp only [List.cons.injEq, and_true] at e5 e6 e7
  subst e5 e6 e7
  have wq' := int_range w5
  exact ⟨⟨f0, f1, f2⟩, rfl, wq'.1, wq'.2⟩

set_option maxRecDepth 100000 in
theorem open_falls {H : Type} {enc : TypeId × Value → H} {W : World} {r : Reach} {b0 : Nat} {v : Value} {d : DataW H} {ps : List MemPlace} (hval : Value.okWide Try.prog W r b0 54 v) (hd : DataW.Trod enc Try.prog W 0 (fun _ => true) true 54 v d ps) : ∃ ls, FallsIn W v ls := by
  have hc : Try.prog.cellsOf 56 = 3 := by kernel_rfl
  obtain ⟨a0, len, cap, rfl⟩ := okWide_slice Try.underlying54 hval
  obtain ⟨fuel, hf⟩ := hd
  rcases DataW.trod_slice Try.underlying54 hf with ⟨hcs, hx⟩ | ⟨a, len', cap', elems, rest, n, _, hcs, _, hb, hl, hm, hlen, hel, _, _⟩
  · simp [Value.cells] at hcs
    obtain ⟨rfl, rfl, rfl⟩ := hcs
    exact ⟨[], none, 0, rfl, Nat.le_refl _, by rw [maxLen_eq]; omega, fun i hi => absurd hi (Nat.not_lt_zero _)⟩
  · simp [Value.cells] at hcs
    obtain ⟨rfl, rfl, rfl⟩ := hcs
    have each : ∀ i, i < len → ∃ f : Fall, (∀ j, j < 3 → W.cell? ((a.add (i * 3)).add j) = [Value.int .i64 f.pos, .int .i64 f.keep, .int .i64 f.torn][j]?) ∧ -9223372036854775808 ≤ f.pos ∧ f.pos ≤ 9223372036854775807 := fun i hi => by
      have h1 := hel i hi
      rw [hc, List.getElem?_eq_getElem (by omega), Option.bind_eq_some_iff] at h1
      obtain ⟨cs, h2, h3⟩ := h1
      obtain ⟨_, h4, h5⟩ := World.cells?_some h2
      obtain ⟨f, rfl, h6⟩ := fall_of_trod h4 h3
      exact ⟨f, h5, h6⟩
    obtain ⟨b, off, spot⟩ := a
    refine ⟨(List.range len).attach.map (fun i => Classical.choose (each i.1 (List.mem_range.1 i.2))), some ⟨b, off, spot⟩, cap, by simp, by simpa using hl, hm, fun i hi => ?_⟩
    have hi' : i < len := by simpa using hi
    have hA := Classical.choose_spec (each i hi')
    simp only [List.getElem_map, List.getElem_attach, List.getElem_range]
    generalize Classical.choose (each i hi') = A at *
    obtain ⟨h1, h2⟩ := hA
    have hspot : spot = none := by
      obtain ⟨A0, h0, _⟩ := each 0 (by omega)
      simpa [Addr.add] using World.cell?_spot (h0 0 (by omega))
    subst hspot
    have at_ : ∀ j, j < 3 → W.cell? ⟨b, off + i * 3 + j, none⟩ = [Value.int .i64 A.pos, .int .i64 A.keep, .int .i64 A.torn][j]? := fun j hj => by
      have := h1 j hj
      rwa [add_plain, add_plain] at this
    exact ⟨b, off, rfl, cell_lt' (at_ 0 (by omega)), at_ 0 (by omega), at_ 1 (by omega), at_ 2 (by omega), h2⟩

end Go.Proofs.Ytgofngilfdnakaa
