/-
  This text proves what End of a session's table does to a table of whatever sessions: under bounds on numbers.
-/
import Derived.Test.YtgofngilfdnakaaSess6
namespace Go.Proofs.Ytgofngilfdnakaa
open Go Go.RowKit
attribute [local go_sem] over_cell over_frozen lt_over le_over noB loudUpon

set_option maxRecDepth 100000 in
set_option maxHeartbeats 1600000 in
theorem SEndG_none (t b k a : Nat) (F : Vs) (s : Int) (n : Nat) (w : World) (h : TabAt w t b k (tabD F) a) (h0 : -9223372036854775808 ≤ s) (h1 : s ≤ 9223372036854775807) (hg : F.get s = none) :
    Calls Try.prog 51 #[.pointer (some ⟨t, 0, none⟩), .int .i64 s, .int .u32 n] w fun e w' => e = .returned (.bool false) ∧ w = w' := by
  have HIS := SIsG_calls t b k a F s w h h0 h1
  rw [hg] at HIS
  have HI := Lib.hid HIS
  clear HIS h hg
  go_enter Try.func51, Try.ntmps51
  go_wp2_with fail
  refine HI.out.mono ?_
  rintro e w' ⟨rfl, rfl⟩
  simp only [Option.isSome_none]
  go_wp2_with fail
  go_ret
  exact ⟨rfl, rfl⟩

set_option maxRecDepth 100000 in
set_option maxHeartbeats 1600000 in
theorem SEndG_not (t b k a base : Nat) (F : Vs) (s : Int) (v : Value) (L : List Nat) (n : Nat) (w : World) (h : TabAt w t b k (tabD F) a) (h0 : -9223372036854775808 ≤ s) (h1 : s ≤ 9223372036854775807) (hg : F.get s = some v) (hv : Nums w base v L) (hn : n ∉ L) (hL : L.length ≤ 1000) :
    Calls Try.prog 51 #[.pointer (some ⟨t, 0, none⟩), .int .i64 s, .int .u32 n] w fun e w' => e = .returned (.bool false) ∧ w = w' := by
  have HIS := SIsG_calls t b k a F s w h h0 h1
  rw [hg] at HIS
  simp only [Option.isSome_some] at HIS
  have HI := Lib.hid HIS
  have HIX := Lib.hid (Index_none base v L n w hv hn hL)
  obtain ⟨ht, hm⟩ := h
  have hl := hm.look1G h0 h1
  rw [hg] at hl
  simp only [Option.getD_some] at hl
  have c0 := cell_heap ht 0
  have tb := lt_heap ht
  simp only [List.getElem?_toArray, List.getElem?_cons_zero] at c0
  obtain ⟨av, cv, rfl, _, _⟩ := hv.shape
  clear hm ht hv hn HIS hg
  go_enter Try.func51, Try.ntmps51
  go_wp2_with (first
    | (go_at_call 57; refine HI.out.mono ?_; rintro e w' ⟨rfl, rfl⟩)
    | (go_at_call 103; refine HIX.out.mono ?_; rintro e w' ⟨rfl, rfl⟩))
  go_ret
  exact ⟨rfl, rfl⟩

set_option maxRecDepth 100000 in
set_option maxHeartbeats 1600000 in
theorem SEndG_ok (t b k a base : Nat) (F : Vs) (s : Int) (v : Value) (L : List Nat) (n i : Nat) (w : World) (h : TabAt w t b k (tabD F) a) (h0 : -9223372036854775808 ≤ s) (h1 : s ≤ 9223372036854775807) (hg : F.get s = some v) (hv : Nums w base v L) (hn : L[i]? = some n) (hf : ∀ j, j < i → L[j]?.getD 0 ≠ n) (hL : L.length ≤ 1000) (ha : 1 ≤ a) (ha2 : a ≤ 1000) (hk : k ≤ 900) (hne : v.ownBlock ≠ some t ∧ v.ownBlock ≠ some b) :
    Calls Try.prog 51 #[.pointer (some ⟨t, 0, none⟩), .int .i64 s, .int .u32 n] w fun e w' => e = .returned (.bool true) ∧ Mod (fun q => q = t ∨ q = b ∨ v.ownBlock = some q) w w' ∧
      ∃ v', TabAt w' t b (k + 1) (tabD (F.put s v')) (a - 1) ∧ Nums w' base v' (L.eraseIdx i) ∧ v'.ownBlock = v.ownBlock := by
  have HIS0 := SIsG_calls t b k a F s w h h0 h1
  rw [hg] at HIS0
  simp only [Option.isSome_some] at HIS0
  have HIS := Lib.hid HIS0
  have HIX := Lib.hid (Index_some base v L n i w hv hn hf hL)
  have hi : i < L.length := (List.getElem?_eq_some_iff.1 hn).1
  have htb := tab_ne h
  obtain ⟨ht, hm⟩ := h
  have lk : ∀ X, MapIs X b k (tabD F) → (Instr.lookup 164 (.map (some b)) (.int .i64 s) false).run Try.prog X = .ok v X := fun X hX => by
    have := hX.look1G h0 h1
    rw [hg] at this
    exact this
  have hl := lk _ hm
  have hl0 := lk _ (hm.mod ((Mod.refl NoB w).drew) id)
  have c0 := cell_heap ht 0
  have c1 := cell_heap ht 1
  have tb := lt_heap ht
  simp only [List.getElem?_toArray, List.getElem?_cons_zero, List.getElem?_cons_succ] at c0 c1
  rcases hv.2 with ⟨hv0, hn0⟩ | ⟨g, cap, cur, rfl, hbg, hgc, hnc, hcm, hcs, htk⟩
  · omega
  have hcs' : cur.size = cap := by omega
  have hwr : IntKind.i64.wrap ((i : Int) + 1) = (i : Int) + 1 := by rw [IntKind.wrap_i64]; omega
  have HDL : Hid (∀ X, Mod NoB w X → Calls Try.prog 104 #[.slice (some ⟨g, 0, none⟩) L.length cap, .int .i64 i, .int .i64 (IntKind.i64.wrap ((i : Int) + 1))] X fun e w' => e = .returned (.slice (some ⟨g, 0, none⟩) (L.length - 1) cap) ∧ Mod (fun k => k = g) X w' ∧
      ∃ cur', w'.heap[g]? = some (.cells cur' 73 (0, 0)) ∧ cur'.size = cap ∧ cur'.toList.take (L.length - 1) = (L.eraseIdx i).map fun n : Nat => Value.int .u32 (n : Int)) := fun X hX => by
    rw [hwr]
    exact DeleteU_calls g cap cur L i X ((hX.block g (lt_heap hgc) id).trans hgc) hcs' hnc hcm (by rw [← htk, Nat.mul_one]) hi hL
  clear hwr
  have HM := Lib.hid hm
  have HT := Lib.hid ht
  have HTB := Lib.hid htb
  have HNE := Lib.hid hne
  clear hm ht hv htb hne hgc htk lk HIS0 hn hf hg
  go_enter Try.func51, Try.ntmps51
  go_upto_region 6 with (first
    | (go_at_call 57; refine HIS.out.mono ?_; rintro e w' ⟨rfl, rfl⟩)
    | (go_at_call 103; refine HIX.out.mono ?_; rintro e w' ⟨rfl, rfl⟩))
  go_region_with (go_at_call 104; refine (HDL.out _ ?_).mono ?_; exact (Mod.refl _ _).drew; rintro e w1 ⟨rfl, hm1, cur', hh1, hsz', htk'⟩; have hm1' : Mod (fun k => k = g) w w1 := ((Mod.refl _ _).drew).trans hm1 (fun _ _ h => h); have ht1 := (hm1'.block t tb (fun e => HNE.out.1 (by rw [e]; rfl))).trans HT.out; obtain ⟨w2, hrun2, h2, hm2⟩ := (HM.out.mod hm1' (fun e => HNE.out.2 (by rw [e]; rfl))).putG h0 h1 (by omega) (.slice (some ⟨g, 0, none⟩) (L.length - 1) cap); have x0 := (cell_heap ht1 0 : w1.cell? ⟨t, 0, none⟩ = some (.map (some b))); have xb := lt_heap ht1)
  all_goals
    have ht2 := (hm2.block t xb HTB.out).trans ht1
    have z1 := (cell_heap ht2 1 : w2.cell? ⟨t, 1, none⟩ = some (.int .i64 a))
    have zb := lt_heap ht2
    have zf := frozen_heap ht2
    have HT2 := Lib.hid ht2
    have H2 := Lib.hid h2
    have HM1 := Lib.hid hm1'
    have HM2 := Lib.hid hm2
    have HH1 := Lib.hid hh1
    have HTK := Lib.hid htk'
    clear ht2 h2 hm1 hm1' hm2 hh1 ht1 hrun2 x0 xb hl hl0 htk'
    go_wp2_with fail
    go_ret
    have hs : Mod (fun q => q = t) w2 (w2.setCell ⟨t, 1, none⟩ (.int .i64 ((a : Int) - 1))) := (Mod.refl _ _).setCell _ _ (fun _ => rfl)
    have hgt : g ≠ t := fun e => HNE.out.1 (by rw [e]; rfl)
    have hgb : g ≠ b := fun e => HNE.out.2 (by rw [e]; rfl)
    have hg2 := (hs.block g (Nat.lt_of_lt_of_le (lt_heap HH1.out) HM2.out.size) hgt).trans ((HM2.out.block g (lt_heap HH1.out) hgb).trans HH1.out)
    have hel : (L.eraseIdx i).length = L.length - 1 := by rw [List.length_eraseIdx, if_pos hi]
    refine ⟨rfl, ?_, .slice (some ⟨g, 0, none⟩) (L.length - 1) cap, ⟨?_, H2.out.mod hs (fun e => HTB.out e.symm)⟩, ⟨by simp, .inr ⟨g, cap, _, by rw [hel], hbg, hg2, by omega, hcm, by omega, by rw [hel, Nat.mul_one]; exact HTK.out⟩⟩, rfl⟩
    · exact ((HM1.out.mono (fun k _ e => .inr (.inr (by rw [e]; rfl)))).trans HM2.out (fun _ _ e => .inr (.inl e))).trans hs (fun _ _ e => .inl e)
    · have e : ((a : Int) - 1) = ((a - 1 : Nat) : Int) := by omega
      rw [e, heap_setCell_same, HT2.out]
      rfl

end Go.Proofs.Ytgofngilfdnakaa
