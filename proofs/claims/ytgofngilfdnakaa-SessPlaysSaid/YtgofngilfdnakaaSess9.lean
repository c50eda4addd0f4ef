/-
  This text proves what the law SessPlays' own function same answers: for a table and a model that have the same few sessions.
-/
import Derived.Test.YtgofngilfdnakaaSess8
import Derived.Test.YtgofngilfdnakaaSess3
namespace Go.Proofs.Ytgofngilfdnakaa
open Go Go.RowKit Go.Sort
attribute [local go_sem] over_cell over_frozen lt_over le_over noB loudUpon

/-- The cells of a row of cells. -/
theorem row1_cells {w : World} {base n : Nat} {T : TypeId} {v : Value} {xs : List Value} (h : w.ownsRow base T 1 v n xs) : ∃ a c, v = .slice a n c ∧ n ≤ c ∧ ∀ i, i < n → ∃ q, a = some ⟨q, 0, none⟩ ∧ q < w.heap.size ∧ w.cell? ⟨q, i, none⟩ = xs[i]? := by
  rcases h.2 with ⟨hv, hn⟩ | ⟨g, cap, cur, hv, hb, hg, hnc, hcm, hcs, ht⟩
  · exact ⟨none, 0, by rw [hv, hn], by omega, fun i hi => by omega⟩
  · refine ⟨_, cap, hv, hnc, fun i hi => ⟨g, rfl, lt_heap hg, ?_⟩⟩
    rw [cell_heap hg, ← ht, List.getElem?_take, if_pos (by omega), Array.getElem?_toList]

theorem isAt_of {A C : Es} {e : Int × Value × List Nat} (h : Rising (A ++ e :: C)) : isAt (A ++ e :: C) e.1 = true := by
  have hf : findAt (A ++ e :: C) e.1 = A.length := by
    refine findAt_eq e.1 _ A.length (by simp) (fun j hj hlt => ?_) (fun hk => ?_)
    · rw [List.getElem_append_left hlt]
      exact (rise_out h).2.1 _ (List.getElem_mem hlt)
    · rw [List.getElem_append_right (Nat.le_refl _)]
      simp
  unfold isAt
  rw [hf, List.getElem?_append_right (Nat.le_refl _), Nat.sub_self]
  simp
theorem get_at {E : Es} (h : Rising E) {i : Nat} (hi : i < E.length) : (vsOf E).get E[i].1 = some E[i].2.1 := by
  have e : E = E.take i ++ E[i] :: E.drop (i + 1) := by rw [← List.drop_eq_getElem_cons hi, List.take_append_drop]
  have hl : (E.take i).length = i := by rw [List.length_take]; omega
  have h2 : Rising (E.take i ++ E[i] :: E.drop (i + 1)) := e ▸ h
  have hi2 := isAt_of h2
  rw [← e] at hi2
  rw [vs_get_is _ _ h, hi2, if_pos rfl]
  have hf : findAt E E[i].1 = i := by
    refine findAt_eq _ E i (by omega) (fun j hj hlt => ?_) (fun _ => by simp)
    exact List.pairwise_iff_getElem.1 h j i hj hi hlt
  rw [hf, List.getElem?_eq_getElem hi]
  rfl
theorem get_isAt {E : Es} {s : Int} (h : Rising E) : ((vsOf E).get s).isSome = isAt E s := by
  rw [vs_get_is _ _ h]
  cases hi : isAt E s with
  | false => rfl
  | true =>
    obtain ⟨A, x, C, rfl, hl, rfl⟩ := split_is hi
    rw [if_pos rfl, ← hl, List.getElem?_append_right (Nat.le_refl _), Nat.sub_self]
    rfl

set_option maxRecDepth 100000 in
set_option maxHeartbeats 3200000 in
theorem same20_calls (w0 w : World) (t b k : Nat) (vm : Value) (Em Et : Es) (s : Int) (h : PS w0 w t b k vm Em Et) (hs : pl Em = pl Et) (h0 : -9223372036854775808 ≤ s) (h1 : s ≤ 9223372036854775807) :
    Calls Try.prog 56 #[.pointer (some ⟨t, 0, none⟩), vm, .int .i64 s] w fun e w' => e = .returned (.bool true) ∧ Mod NoB w w' := by
  have hlen := pl_len hs
  have hle := h.ts.length
  have htot := total_pl hs
  have h32 := h.ts.tot
  have HSS := Lib.hid (SSessions_calls t b k _ _ w h.ts.tab (by rw [tabD_size]; unfold vsOf; rw [List.length_map]; omega))
  have hsh : ∀ e ∈ Em, ∃ a c, e.2.1 = .slice a e.2.2.length c := fun e he => by
    obtain ⟨a, c, hv, _⟩ := (h.ms.nums e he).shape
    exact ⟨a, c, hv⟩
  have HALL := Lib.hid (fun X (hX : Mod NoB w X) => SAll_calls t b k (total Et) _ X (h.quiet hX).ts.tab)
  have HAL := Lib.hid (fun X (hX : Mod NoB w X) => all_calls _ vm Em X (h.quiet hX).ms.ops hsh (by omega) (by omega))
  have HFI := Lib.hid (fun X (hX : Mod NoB w X) => find_calls _ vm Em s X (h.quiet hX).ms.ops (by omega))
  have HIS := Lib.hid (fun X (hX : Mod NoB w X) => SIsG_calls t b k _ _ s X (h.quiet hX).ts.tab h0 h1)
  obtain ⟨am, cm, rfl, hcm, hcell⟩ := h.ms.ops.cells
  have HCM := Lib.hid hcell
  have HP := Lib.hid h
  have HPL := Lib.hid hs
  have HLEN := Lib.hid hlen
  have HTOT := Lib.hid htot
  have HISA : Hid ((((vsOf Et).get s).isSome) = isAt Em s) := by rw [get_isAt h.ts.rise, isAt_pl hs]; exact rfl
  clear h hs hcell hsh hlen htot
  go_enter Try.func56, Try.ntmps56
  go_wp2_with fail
  refine HSS.out.mono ?_
  rintro e W1 ⟨v, ss, rfl, hperm, hrow, _, hm1⟩
  rw [tabD_keys, show (vsOf Et).map (·.1) = Et.map (·.1) by unfold vsOf; rw [List.map_map]; rfl] at hperm
  rw [sorted_keys HP.out.ts.rise hperm] at hrow
  have hsl : ss.length = Et.length := by have := hperm.length_eq; simpa using this
  rw [hsl] at hrow
  obtain ⟨av, cv, rfl, hcv, hvc⟩ := row1_cells hrow
  have HM1 := Lib.hid hm1
  have HVC := Lib.hid hvc
  clear hperm hrow hvc hm1 hsl HSS
  have he1 : ((Et.length : Int) != (Em.length : Int)) = false := by rw [HLEN.out]; simp
  have he2 : ((total Et : Int) != (total Em : Int)) = false := by rw [HTOT.out]; simp
  go_wp2_with (first
    | (go_at_call 60; refine (HALL.out _ HM1.out).mono ?_; rintro e w' ⟨rfl, rfl⟩)
    | (go_at_call 105; refine (HAL.out _ HM1.out).mono ?_; rintro e w' ⟨rfl, rfl⟩))
  have HM0 := Lib.hid (Mod.refl NoB W1)
  go_loopw [8] (fun i wr => ∃ j : Nat, j ≤ Em.length ∧ i = .int .i64 j ∧ Hid (Mod NoB W1 wr)) (fun i _ => Em.length - (intOf i).toNat)
  case atStart => exact ⟨0, by omega, rfl, HM0⟩
  case round =>
    obtain ⟨j, hj, rfl, HMR⟩ := hrel
    by_cases hlt : j < Em.length
    · have hlt2 : j < Et.length := by have := HLEN.out; omega
      obtain ⟨q, rfl, hq, hc0, hc1⟩ := HCM.out j hlt
      obtain ⟨q2, rfl, hq2, hv0⟩ := HVC.out j hlt2
      obtain ⟨p1, p2⟩ := pl_at HPL.out j hlt hlt2
      rw [List.getElem?_map, List.getElem?_map, List.getElem?_eq_getElem hlt2, Option.map_some, Option.map_some, ← p1] at hv0
      have hv0' : W1.cell? ⟨q2, j, none⟩ = some (.int .i64 Em[j].1) := hv0
      have hmw : Mod NoB w wr := HM1.out.trans HMR.out (fun _ _ h => h)
      rw [← World.cell?_of_block (w := w) (hmw.block q hq id)] at hc0 hc1
      rw [← World.cell?_of_block (w := W1) (HMR.out.block q2 hq2 id)] at hv0'
      have hqw := Nat.lt_of_lt_of_le hq hmw.size
      have hq2w := Nat.lt_of_lt_of_le hq2 HMR.out.size
      have hps := HP.out.quiet hmw
      have hkey := hps.ts.keys _ (List.getElem_mem hlt2)
      have hgt := get_at hps.ts.rise hlt2
      obtain ⟨a3, c3, hv3, _⟩ := (hps.ts.nums _ (List.getElem_mem hlt2)).shape
      obtain ⟨a4, c4, hv4, _⟩ := (hps.ms.nums _ (List.getElem_mem hlt)).shape
      rw [← p1] at hkey hgt
      rw [hv3, ← p2] at hgt
      rw [hv4] at hc1
      have HCO := Lib.hid (fun X (hX : Mod NoB wr X) => (SCountG_calls t b k _ _ Em[j].1 a3 Em[j].2.2.length c3 X (hps.quiet hX).ts.tab (by omega) (by omega) (by rw [hgt]; rfl)).mono (fun e w' hh => (⟨hh.1, hh.2 ▸ Mod.refl NoB X⟩ : e = .returned (.int .i64 Em[j].2.2.length) ∧ Mod NoB X w')))
      have HI2 := Lib.hid (fun X (hX : Mod NoB wr X) => (SIsG_calls t b k _ _ Em[j].1 X (hps.quiet hX).ts.tab (by omega) (by omega)).mono (fun e w' hh => (⟨by rw [hh.1, hgt]; rfl, hh.2 ▸ Mod.refl NoB X⟩ : e = .returned (.bool true) ∧ Mod NoB X w')))
      generalize Em[j] = x at *
      obtain ⟨x1, x2, x3⟩ := x
      simp only at hc0 hc1 hv0' HCO HI2
      clear hps hkey hgt hv3 hv4 p1 p2 hv0 hmw
      go_upto_region 7 with fail
      refine wp_region_quiet_all (fun w' => ∃ x, w' = over _ (NoB) x) (by kernel_rfl) (by kernel_rfl) (Cls.drew _ _) ?_
      repeat (go_big_quiet_step ((first | (go_at_call 59; exact Calls.cls (fun _ _ h => h) (HCO.out _ (over_mod _ _ _))) | (go_at_call 57; exact Calls.cls (fun _ _ h => h) (HI2.out _ (over_mod _ _ _))))))
      refine wpQuiet_nil ?_
      rintro _ ⟨y, rfl⟩
      have HM2 : Hid (Mod NoB W1 (over wr NoB y)) := HMR.out.trans (over_mod _ _ _) (fun _ _ h => h)
      go_wp2_with fail
      go_roundw
      case rel => exact ⟨j + 1, by omega, by go_num, HM2⟩
      case measure => simp [intOf]; omega
    · have hM : Mod NoB w wr := HM1.out.trans HMR.out (fun _ _ h => h)
      have HF := Lib.hid (HFI.out wr hM)
      have HMW := Lib.hid hM
      clear hM
      go_wp2_with fail
      refine HF.out.mono ?_
      rintro e W3 ⟨rfl, hm3⟩
      have HM3 := Lib.hid (HMW.out.trans hm3 (fun _ _ h => h))
      have HI3 := Lib.hid (HIS.out W3 HM3.out)
      rw [HISA.out] at HI3
      clear hm3
      go_wp2_with fail
      refine HI3.out.mono ?_
      rintro e w' ⟨rfl, rfl⟩
      go_wp2_with fail
      go_ret
      refine ⟨by simp, HM3.out⟩

end Go.Proofs.Ytgofngilfdnakaa
