/-
  This text proves what the law SessPlays' own function begin computes: for few sessions.
-/
import Derived.Test.YtgofngilfdnakaaSessW
import Derived.Deep.RegionWith
import Derived.Deep.Cut
namespace Go.Proofs.Ytgofngilfdnakaa
open Go Go.RowKit
attribute [local go_sem] over_cell over_frozen lt_over le_over noB loudUpon

/-- What a request that begins is told. -/
def beginOf (E : Es) (s : Int) (n : Nat) : Int := match E[findAt E s]? with
  | some e => if e.1 = s then (if n ∈ e.2.2 then 1 else if 4 ≤ e.2.2.length then 200 else if 32 ≤ total E then 201 else 0) else 2
  | none => 2

set_option maxRecDepth 100000 in
set_option maxHeartbeats 1600000 in
theorem begin_calls (base : Nat) (v : Value) (E : Es) (kind s : Int) (n : Nat) (w : World) (h : OpsAt w base v E) (hE : ∀ e ∈ E, Nums w base e.2.1 e.2.2) (hl : ∀ e ∈ E, e.2.2.length ≤ 1000) (hn : E.length ≤ 1000) (ht : total E ≤ 1000000) :
    Calls Try.prog 54 #[v, .agg #[.int .i64 kind, .int .i64 s, .int .u32 n]] w fun e w' => e = .returned (.int .i64 (beginOf E s n)) ∧ Mod NoB w w' := by
  have hm1 : Mod NoB w (w.alloc (.cells #[.int .i64 kind, .int .i64 s, .int .u32 n] 75)) := (Mod.refl _ _).alloc _
  have HFI := Lib.hid (find_calls base v E s _ (ownsRow_mod h hm1 (fun _ _ => id)) hn)
  have hsh : ∀ e ∈ E, ∃ a c, e.2.1 = .slice a e.2.2.length c := fun e he => by
    obtain ⟨a, c, hv, _⟩ := (hE e he).shape
    exact ⟨a, c, hv⟩
  have HAL := Lib.hid (fun X (hX : Mod NoB w X) => all_calls base v E X (ownsRow_mod h hX (fun _ _ => id)) hsh hn ht)
  obtain ⟨va, vc, rfl, hvc, hcell⟩ := h.cells
  have hca := heap_alloc_new w (.cells #[.int .i64 kind, .int .i64 s, .int .u32 n] 75)
  by_cases his : isAt E s = true
  · obtain ⟨hat, hes⟩ : ∃ hat : findAt E s < E.length, E[findAt E s].1 = s := by
      unfold isAt at his
      by_cases hlt : findAt E s < E.length
      · rw [List.getElem?_eq_getElem hlt] at his
        exact ⟨hlt, by simpa using his⟩
      · rw [List.getElem?_eq_none (by omega)] at his
        cases his
    have hfin : beginOf E s n = if n ∈ E[findAt E s].2.2 then 1 else if 4 ≤ E[findAt E s].2.2.length then 200 else if 32 ≤ total E then 201 else 0 := by
      unfold beginOf
      rw [List.getElem?_eq_getElem hat]
      simp only [hes, if_true]
    obtain ⟨q, rfl, hq, _, h2⟩ := hcell _ hat
    have hNM := hE _ (List.getElem_mem hat)
    have hLL := hl _ (List.getElem_mem hat)
    obtain ⟨a2, c2, h3⟩ := hsh _ (List.getElem_mem hat)
    rw [hfin]
    rw [his] at HFI
    rw [h3] at h2 hNM
    generalize E[findAt E s].2.2 = L at *
    generalize findAt E s = at' at *
    have c1 := cell_heap hca 1
    simp only [List.getElem?_toArray, List.getElem?_cons_zero, List.getElem?_cons_succ] at c1
    have cb := lt_heap hca
    have HM := Lib.hid hm1
    have HNM := Lib.hid hNM
    have HCA := Lib.hid hca
    clear hm1 hcell hfin his hE hsh hl hNM h3 hes hca
    by_cases hmem : n ∈ L
    · rw [if_pos hmem]
      go_enter Try.func54, Try.ntmps54
      go_wp2_with fail
      refine HFI.out.mono ?_
      rintro e w2 ⟨rfl, hm2⟩
      have hm2' : Mod NoB w w2 := HM.out.trans hm2 (fun _ _ h => h)
      have hca2 := (hm2.block _ cb id).trans HCA.out
      have k1 := cell_heap hca2 2
      simp only [List.getElem?_toArray, List.getElem?_cons_zero, List.getElem?_cons_succ] at k1
      have kb := lt_heap hca2
      have l2 := (World.cell?_of_block (w := w) (hm2'.block q hq id)).trans h2
      have lb := Nat.lt_of_lt_of_le hq hm2'.size
      have HM2 := Lib.hid hm2'
      have HN2 := Lib.hid (ownsRow_mod HNM.out hm2' (fun _ _ => id) : Nums w2 base (.slice a2 L.length c2) L)
      clear hm2 hm2' hca2 HM HFI c1 cb h2 hq HCA HNM
      obtain ⟨i0, hf1, hf2⟩ := first_of hmem
      have HPL := Lib.hid (fun X (hX : Mod NoB w2 X) => place_some base (.slice a2 L.length c2) L n i0 X (ownsRow_mod HN2.out hX (fun _ _ => id)) hf1 hf2 hLL)
      clear hf1 hf2 hmem HN2
      go_upto_region 4 with fail
      go_region_with (go_at_call 50; refine (HPL.out _ ?_).mono ?_; exact (Mod.refl _ _).drew; rintro e w5 ⟨rfl, rfl⟩)
      all_goals (
        have HM5 := Lib.hid (HM2.out.drew)
        go_wp2_with fail
        go_ret
        exact ⟨rfl, HM5.out⟩)
    · rw [if_neg hmem]
      by_cases h4 : 4 ≤ L.length
      · rw [if_pos h4]
        go_enter Try.func54, Try.ntmps54
        go_wp2_with fail
        refine HFI.out.mono ?_
        rintro e w2 ⟨rfl, hm2⟩
        have hm2' : Mod NoB w w2 := HM.out.trans hm2 (fun _ _ h => h)
        have hca2 := (hm2.block _ cb id).trans HCA.out
        have k1 := cell_heap hca2 2
        simp only [List.getElem?_toArray, List.getElem?_cons_zero, List.getElem?_cons_succ] at k1
        have kb := lt_heap hca2
        have l2 := (World.cell?_of_block (w := w) (hm2'.block q hq id)).trans h2
        have lb := Nat.lt_of_lt_of_le hq hm2'.size
        have HM2 := Lib.hid hm2'
        have HN2 := Lib.hid (ownsRow_mod HNM.out hm2' (fun _ _ => id) : Nums w2 base (.slice a2 L.length c2) L)
        clear hm2 hm2' hca2 HM HFI c1 cb h2 hq HCA HNM
        have HPL := Lib.hid (fun X (hX : Mod NoB w2 X) => place_none base (.slice a2 L.length c2) L n X (ownsRow_mod HN2.out hX (fun _ _ => id)) hmem hLL)
        have HAL2 := Lib.hid (HAL.out w2.drew HM2.out.drew)
        have HM5 := Lib.hid (HM2.out.drew)
        clear hmem HN2 HAL
        go_upto_region 4 with fail
        go_region_with (go_at_call 50; refine (HPL.out _ ?_).mono ?_; exact (Mod.refl _ _).drew; rintro e w5 ⟨rfl, rfl⟩)
        all_goals (
          go_wp2_with (go_at_call 105; refine HAL2.out.mono ?_; rintro e w' ⟨rfl, rfl⟩)
          go_ret
          exact ⟨rfl, HM5.out⟩)
      · rw [if_neg h4]
        by_cases h32 : 32 ≤ total E
        · rw [if_pos h32]
          go_enter Try.func54, Try.ntmps54
          go_wp2_with fail
          refine HFI.out.mono ?_
          rintro e w2 ⟨rfl, hm2⟩
          have hm2' : Mod NoB w w2 := HM.out.trans hm2 (fun _ _ h => h)
          have hca2 := (hm2.block _ cb id).trans HCA.out
          have k1 := cell_heap hca2 2
          simp only [List.getElem?_toArray, List.getElem?_cons_zero, List.getElem?_cons_succ] at k1
          have kb := lt_heap hca2
          have l2 := (World.cell?_of_block (w := w) (hm2'.block q hq id)).trans h2
          have lb := Nat.lt_of_lt_of_le hq hm2'.size
          have HM2 := Lib.hid hm2'
          have HN2 := Lib.hid (ownsRow_mod HNM.out hm2' (fun _ _ => id) : Nums w2 base (.slice a2 L.length c2) L)
          clear hm2 hm2' hca2 HM HFI c1 cb h2 hq HCA HNM
          have HPL := Lib.hid (fun X (hX : Mod NoB w2 X) => place_none base (.slice a2 L.length c2) L n X (ownsRow_mod HN2.out hX (fun _ _ => id)) hmem hLL)
          have HAL2 := Lib.hid (HAL.out w2.drew HM2.out.drew)
          have HM5 := Lib.hid (HM2.out.drew)
          clear hmem HN2 HAL
          go_upto_region 4 with fail
          go_region_with (go_at_call 50; refine (HPL.out _ ?_).mono ?_; exact (Mod.refl _ _).drew; rintro e w5 ⟨rfl, rfl⟩)
          all_goals (
            go_wp2_with (go_at_call 105; refine HAL2.out.mono ?_; rintro e w' ⟨rfl, rfl⟩)
            go_ret
            exact ⟨rfl, HM5.out⟩)
        · rw [if_neg h32]
          go_enter Try.func54, Try.ntmps54
          go_wp2_with fail
          refine HFI.out.mono ?_
          rintro e w2 ⟨rfl, hm2⟩
          have hm2' : Mod NoB w w2 := HM.out.trans hm2 (fun _ _ h => h)
          have hca2 := (hm2.block _ cb id).trans HCA.out
          have k1 := cell_heap hca2 2
          simp only [List.getElem?_toArray, List.getElem?_cons_zero, List.getElem?_cons_succ] at k1
          have kb := lt_heap hca2
          have l2 := (World.cell?_of_block (w := w) (hm2'.block q hq id)).trans h2
          have lb := Nat.lt_of_lt_of_le hq hm2'.size
          have HM2 := Lib.hid hm2'
          have HN2 := Lib.hid (ownsRow_mod HNM.out hm2' (fun _ _ => id) : Nums w2 base (.slice a2 L.length c2) L)
          clear hm2 hm2' hca2 HM HFI c1 cb h2 hq HCA HNM
          have HPL := Lib.hid (fun X (hX : Mod NoB w2 X) => place_none base (.slice a2 L.length c2) L n X (ownsRow_mod HN2.out hX (fun _ _ => id)) hmem hLL)
          have HAL2 := Lib.hid (HAL.out w2.drew HM2.out.drew)
          have HM5 := Lib.hid (HM2.out.drew)
          clear hmem HN2 HAL
          go_upto_region 4 with fail
          go_region_with (go_at_call 50; refine (HPL.out _ ?_).mono ?_; exact (Mod.refl _ _).drew; rintro e w5 ⟨rfl, rfl⟩)
          all_goals (
            go_wp2_with (go_at_call 105; refine HAL2.out.mono ?_; rintro e w' ⟨rfl, rfl⟩)
            go_ret
            exact ⟨rfl, HM5.out⟩)
  · have his' : isAt E s = false := by simpa using his
    have hfin : beginOf E s n = 2 := by
      unfold beginOf
      unfold isAt at his'
      cases hx : E[findAt E s]? with
      | none => rfl
      | some e =>
        rw [hx] at his'
        have : e.1 ≠ s := by simpa using his'
        simp only [if_neg this]
    rw [hfin]
    rw [his'] at HFI
    have c1 := cell_heap hca 1
    simp only [List.getElem?_toArray, List.getElem?_cons_zero, List.getElem?_cons_succ] at c1
    have cb := lt_heap hca
    have HM := Lib.hid hm1
    clear hca hm1 hcell hfin his his' hE hsh hl
    generalize findAt E s = at' at *
    go_enter Try.func54, Try.ntmps54
    go_wp2_with fail
    refine HFI.out.mono ?_
    rintro e w2 ⟨rfl, hm2⟩
    have HM2 : Hid (Mod NoB w w2) := HM.out.trans hm2 (fun _ _ h => h)
    clear hm2
    go_wp2_with fail
    go_ret
    exact ⟨rfl, HM2.out⟩

end Go.Proofs.Ytgofngilfdnakaa
