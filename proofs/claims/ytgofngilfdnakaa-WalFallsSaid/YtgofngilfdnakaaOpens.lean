/-
  This text proves what the arguments of a law are, as its walk wants them: texts in a slice; no Go function is spoken of.
-/
import Derived.Test.YtgofngilfdnakaaLaw4a
import Derived.Test.YtgofngilfdnakaaBehind
import Derived.SliceStrings
import Derived.ChangeMaps5
namespace Go.Proofs.Ytgofngilfdnakaa
open Go Go.ChangeShapes Go.WideShapes Go.ChangeAt Go.RowKit

theorem int_range {n : Int} (h : (Lit.int .i64 n).wf = true) : -9223372036854775808 ≤ n ∧ n ≤ 9223372036854775807 := by
  simp only [Lit.wf, Bool.and_eq_true, decide_eq_true_eq] at h
  exact h
theorem cell_lt' {w : World} {a : Addr} {v : Value} (h : w.cell? a = some v) : a.block < w.heap.size := by
  rcases Nat.lt_or_ge a.block w.heap.size with h1 | h1
  · exact h1
  · unfold World.cell? at h
    rw [Array.getElem?_eq_none h1] at h
    cases h
theorem str_size (s : ByteArray) : s = ⟨s.data.toList.toArray⟩ := by cases s; simp

set_option maxRecDepth 100000 in
theorem open_strs {H : Type} {enc : TypeId × Value → H} {W : World} {r : Reach} {b0 : Nat} {v : Value} {d : DataW H} {ps : List MemPlace} {t e : TypeId} (ht : Try.prog.underlying t = some (.slice e)) (he : Try.prog.underlying e = some .string) (hc : Try.prog.cellsOf e = 1)
    (hval : Value.okWide Try.prog W r b0 t v) (hd : DataW.Trod enc Try.prog W 0 (fun _ => true) true t v d ps) : ∃ ls : List Str, StrsIn W v ls ∧ ∀ s ∈ ls, s.length ≤ 9223372036854775807 := by
  obtain ⟨a0, len, cap, rfl⟩ := okWide_slice ht hval
  obtain ⟨fuel, hf⟩ := hd
  rcases open_strings ht he hc hf with ⟨hcs, hx⟩ | ⟨a, len', cap', ss, hcs, _, hl, hm, hz, hx, hcell, hws⟩
  · simp [Value.cells] at hcs
    obtain ⟨rfl, rfl, rfl⟩ := hcs
    exact ⟨[], ⟨none, 0, rfl, Nat.le_refl _, by rw [maxLen_eq]; omega, fun i hi => absurd hi (Nat.not_lt_zero _)⟩, fun s hs => (by cases hs)⟩
  · simp [Value.cells] at hcs
    obtain ⟨rfl, rfl, rfl⟩ := hcs
    simp only [if_true] at hz
    obtain ⟨b, off, spot⟩ := a
    have hlen : ((ss.take len).map fun s => s.data.toList).length = len := by simp; omega
    refine ⟨(ss.take len).map (fun s => s.data.toList), ⟨some ⟨b, off, spot⟩, cap, by rw [hlen], by rw [hlen]; exact hl, hm, fun i hi => ?_⟩, fun s hs => ?_⟩
    · rw [hlen] at hi
      have hspot : spot = none := by simpa [Addr.add] using World.cell?_spot (hcell 0 (by omega))
      subst hspot
      refine ⟨b, off, rfl, cell_lt' (hcell 0 (by omega)), ?_⟩
      have h1 := hcell i (by omega)
      rw [add_plain] at h1
      rw [h1]
      rw [List.getElem?_map, List.getElem?_take_of_lt hi, List.getElem?_eq_getElem (by omega)]
      simp only [Option.map_some, Option.getD_some, List.getD, List.getElem?_eq_getElem (show i < ss.length by omega)]
    · obtain ⟨x, hx, rfl⟩ := List.mem_map.1 hs
      have := hws x (List.mem_of_mem_take hx)
      rw [maxLen_eq] at this
      exact this

end Go.Proofs.Ytgofngilfdnakaa
