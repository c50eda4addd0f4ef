/-
  This text proves what the law SessPlays' own function with computes: for few sessions.
-/
import Derived.Test.YtgofngilfdnakaaSessO
namespace Go.Proofs.Ytgofngilfdnakaa
open Go Go.RowKit
attribute [local go_sem] over_cell over_frozen lt_over le_over noB loudUpon

set_option maxRecDepth 100000 in
set_option maxHeartbeats 1600000 in
theorem with_calls (base : Nat) (v : Value) (E : Es) (i : Nat) (a2 : Option Addr) (n2 c2 : Nat) (L : List Nat) (w : World) (h : OpsAt w base v E) (hE : Slices E) (hi : i < E.length) (hn : E.length ≤ 1000) :
    Calls Try.prog 52 #[v, .int .i64 i, .slice a2 n2 c2] w fun e w' => ∃ v', e = .returned v' ∧ Mod NoB w w' ∧ OpsAt w' w.heap.size v' (E.set i (E[i].1, .slice a2 n2 c2, L)) := by
  rcases h.2 with ⟨hv, hn0⟩ | ⟨g, cap, cur, rfl, _, hg, hnc, hcm, hcs, ht⟩
  · omega
  have hm1 : Mod NoB w (w.alloc (.cells #[] 81)) := (Mod.refl _ _).alloc _
  have hz1 : (w.alloc (.cells #[] 81)).heap.size = w.heap.size + 1 := size_alloc _ _
  have h0 : OpsAt (w.alloc (.cells #[] 81)) w.heap.size (.slice (some ⟨w.heap.size, 0, none⟩) 0 0) [] :=
    ⟨rfl, .inr ⟨w.heap.size, 0, #[], rfl, Nat.le_refl _, heap_alloc_new _ _, Nat.le_refl _, by rw [maxLen_eq]; omega, rfl, rfl⟩⟩
  obtain ⟨v', W', hrun, how, hgr, hblk⟩ := ops_append (c2 := cap) (ad := ⟨g, 0, none⟩) (E2 := E) 72 h0 (fun j u hj => by
    rw [Addr.add_mid, Nat.zero_add, World.cell?_of_block (w := w) (hm1.block g (lt_heap hg) id), cell_heap hg]
    rw [← ht, List.getElem?_take] at hj
    split at hj
    · simpa using hj
    · cases hj) hE (by simp only [List.length_nil]; omega) (by omega)
  rw [List.nil_append] at how
  have hW : Mod NoB w W' := hm1.grown hgr (fun q hq hl => by simp only [Value.ownBlock, Option.some.injEq] at hq; omega)
  obtain ⟨a3, c3, rfl, hc3, hcell⟩ := how.cells
  obtain ⟨q, rfl, hq, _, hq2⟩ := hcell i hi
  have hq0 : w.heap.size ≤ q := (how.lt q rfl).1
  have hqf : ∀ j, W'.frozen? ⟨q, j, none⟩ = false := fun j => by
    rcases how.2 with ⟨hv, _⟩ | ⟨g', cap', cur', hv, _, hg', _⟩
    · cases hv
    · cases hv; exact frozen_heap hg' j
  have hset := ops_set (.slice a2 n2 c2) L how hi
  have HS := Lib.hid hset
  have HW := Lib.hid hW
  have hcs2 : E.length ≤ c3 := hc3
  obtain ⟨a9, n9, c9, hsh⟩ := hE _ (List.getElem_mem hi)
  rw [hsh] at hq2
  clear h how hset hW hgr hblk hm1 h0 ht hcs hg hcell hE hsh
  go_enter Try.func52, Try.ntmps52
  go_wp2_with (at_builtin; refine wpList_append_run rfl _ _ _ rfl rfl rfl hrun ?_)
  go_ret
  exact ⟨_, rfl, HW.out.setCell _ _ (fun (hl : q < w.heap.size) => absurd hl (by omega)), HS.out⟩

end Go.Proofs.Ytgofngilfdnakaa
