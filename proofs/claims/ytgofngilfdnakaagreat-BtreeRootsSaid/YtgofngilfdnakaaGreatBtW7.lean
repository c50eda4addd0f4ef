/-
  This text proves what the package page's Decode does with the bytes of a page that may be: the page.
-/
import Derived.Test.YtgofngilfdnakaaGreatBtW6
import Derived.Deep.Cut
import Derived.Deep.CutRange
import Derived.Deep.CutBlock
import Derived.Deep.RegionWith
namespace Go.Proofs.YtgofngilfdnakaaGreat
open Go Go.RowKit
attribute [local go_sem] over_cell over_frozen lt_over le_over noB loudUpon ByteArray.mk_append_mk ByteArray.extract_mk

set_option maxRecDepth 100000 in
set_option maxHeartbeats 12800000 in
theorem Decode_leaf (p : Pg) (w : World) (hp : pgOk p) (hl : p.leaf = true) :
    Calls Tryz.prog 82 #[.string ⟨(encP p).toArray⟩] w fun e w' => ∃ kv vv cv, e = .returned (.tuple #[pageV p kv vv cv, .int .i64 0]) ∧ PgOwn w' w.heap.size kv vv cv p.keys p.vals p.kids ∧ Mod NoB w w' := by
  have hle := encP_le hp
  have HPG := Lib.hid hp
  obtain ⟨h1, h2, h3, h4, h5⟩ := hp
  have HKL := Lib.hid h2

  obtain ⟨g1, g2, g3⟩ := h4 hl
  have HVL := Lib.hid g3
  have HENC : Hid (encP p = numLE 1 1 ++ (numLE p.keys.length 1 ++ (p.keys.flatMap text ++ p.vals.flatMap text))) := by
    show _ = _
    unfold encP
    rw [hl, g1, List.flatMap_nil, List.append_nil]
    rfl
  have HKV : Hid (p.kids = []) := g1
  have HPQ : Hid (pgOk ⟨true, p.keys, p.vals, []⟩) := by
    have h := HPG.out
    have e : p = ⟨true, p.keys, p.vals, []⟩ := by
      obtain ⟨a, b, c, d⟩ := p
      simp only at hl g1
      rw [hl, g1]
    rw [e] at h
    exact h
  clear g1 g3

  have HL := Lib.hid hl
  clear h1 h2 h4 h5 hl
  rw [HENC.out] at hle ⊢
  generalize hW : w = W at *
  clear hW w
  obtain ⟨W1, hW1⟩ : ∃ W1, W.alloc (.cells #[.bool false, .slice none 0 0, .slice none 0 0, .slice none 0 0] 130) = W1 := ⟨_, rfl⟩
  have hm1 : Mod NoB W W1 := by rw [← hW1]; exact (Mod.refl _ _).alloc _
  have hD1 : W1.heap[W.heap.size]? = some (.cells #[.bool false, .slice none 0 0, .slice none 0 0, .slice none 0 0] 130 (0, 0)) := by rw [← hW1]; exact heap_alloc_new _ _
  have HM1 := Lib.hid hm1
  have HD1 := Lib.hid hD1
  clear hm1 hD1
  go_enter Tryz.func82, Tryz.ntmps82
  go_wp2_with fail
  clear hW1
  refine (NewReader_calls _ _).mono ?_
  rintro e W2 ⟨rfl, hm2, hr2⟩
  have hDR : W.heap.size < W1.heap.size := lt_heap HD1.out
  generalize hRe : W1.heap.size = R at *
  have hRW2 : R < W2.heap.size := lt_heap hr2
  have HD2 := Lib.hid ((hm2.block _ (by omega) id).trans HD1.out)
  have HM2 := Lib.hid (HM1.out.trans hm2 (fun _ _ h => h))
  have HB := Lib.hid (RBool_calls R true _ 0 W2 hr2 (by simp only [List.length_append, numLE_length] at hle ⊢; omega))
  clear hm2 hr2 hRe HD1 HM1
  go_wp2_with fail
  refine HB.out.mono ?_
  rintro e W3 ⟨rfl, hm3, hr3⟩
  have HD3 := Lib.hid ((hm3.block W.heap.size (by omega) (by omega)).trans HD2.out)
  have HM3 := Lib.hid (HM2.out.trans hm3 (fun q hq e => by omega))
  have HR3 := Lib.hid hr3
  have hRW3 : R < W3.heap.size := lt_heap hr3
  clear hm3 hr3 HB HD2 HM2
  have hm4 : Mod NoB W3 (W3.alloc (.cells #[.bool true, .slice none 0 0, .slice none 0 0, .slice none 0 0] 130)) := (Mod.refl _ _).alloc _
  have hP4 : (W3.alloc (.cells #[.bool true, .slice none 0 0, .slice none 0 0, .slice none 0 0] 130)).heap[W3.heap.size]? = some (.cells #[.bool true, .slice none 0 0, .slice none 0 0, .slice none 0 0] 130 (0, 0)) := heap_alloc_new _ _
  have HD4 := Lib.hid ((hm4.block W.heap.size (by omega) id).trans HD3.out)
  have HM4 := Lib.hid (HM3.out.trans hm4 (fun _ _ h => h))
  have hr4 : RdAt (W3.alloc (.cells #[.bool true, .slice none 0 0, .slice none 0 0, .slice none 0 0] 130)) R _ := (hm4.block R hRW3 id).trans HR3.out
  have hN := RNumber_calls R _ 1 (by omega) _ hr4 (by simp only [List.length_append, numLE_length] at hle ⊢; omega)
  rw [rd_number p.keys.length 1 _ _ (by omega)] at hN
  have HN4 := Lib.hid hN
  have HP4 := Lib.hid hP4
  clear hm4 hP4 hr4 hN HD3 HM3 HR3
  go_wp2_with fail
  refine HN4.out.mono ?_
  rintro e W5 ⟨rfl, hm5, hr5⟩
  have hRP : R < W3.heap.size := hRW3
  have hPs : W3.heap.size < (W3.alloc (.cells #[.bool true, .slice none 0 0, .slice none 0 0, .slice none 0 0] 130)).heap.size := by rw [size_alloc]; omega
  have H0 : Hid (DecAt W W.heap.size R W3.heap.size ⟨true, p.keys.take 0, [], []⟩ ((p.keys.drop 0).flatMap text ++ p.vals.flatMap text) W5) :=
    ⟨⟨_, hr5, by simp only [List.length_append, numLE_length, List.drop_zero] at hle ⊢; omega⟩, (hm5.block W.heap.size (by omega) (by omega)).trans HD4.out, ⟨none, 0, none, 0, none, 0, (hm5.block W3.heap.size hPs (by omega)).trans HP4.out, PgOwn.nil _ _⟩, HM4.out.trans hm5 (fun q hq e => by omega)⟩
  clear hPs hm5 hr5 HN4 HD4 HM4 HP4 hle HENC hRW2
  generalize W3.heap.size = P at *
  clear hRW3 W2 W3 W1
  go_wp2_with fail
  go_loopw [7] (fun i wr => ∃ k : Nat, k ≤ p.keys.length ∧ i = .int .i64 k ∧ Hid (DecAt W W.heap.size R P ⟨true, p.keys.take k, [], []⟩ ((p.keys.drop k).flatMap text ++ p.vals.flatMap text) wr)) (fun i _ => p.keys.length - (intOf i).toNat)
  case atStart => exact ⟨0, by omega, rfl, H0⟩
  case round =>
    obtain ⟨k, hk, rfl, HR⟩ := hrel
    obtain ⟨took, hrd, htk⟩ := HR.out.rd
    obtain ⟨rb, r0, r1, r2, rf⟩ := hrd.facts
    have HE := Lib.hid (Err_calls R _ wr hrd)
    simp only at r0 r1 r2 HE
    have hWR := HR.out.mod.size
    have hlen0 : (p.keys.take k).length = k := by rw [List.length_take]; omega
    obtain ⟨ka, kc, va, vc, ca, cc, hP, hown⟩ := HR.out.page
    simp only [hlen0, List.length_nil] at hP hown
    obtain ⟨pb, p0, p1, p2, p3, pf⟩ := Page4.facts hP
    have HP := Lib.hid hP
    have HO := Lib.hid hown
    by_cases hlt : k < p.keys.length
    · have hd := flat_drop text p.keys k hlt
      have HLS := Lib.hid (((HKL.out _ (List.getElem_mem hlt)).2 : p.keys[k].length ≤ 64))
      have htake : (p.keys.take (k + 1)).map txt = (p.keys.take k).map txt ++ [txt p.keys[k]] := by rw [List.take_succ_eq_append_getElem hlt, List.map_append]; rfl
      have HTK := Lib.hid htake
      have hlen1 : (p.keys.take (k + 1)).length = k + 1 := by rw [List.length_take]; omega
      generalize p.keys[k] = s at *
      have ht : ∀ X, Mod NoB wr X → Calls Tryz.prog 122 #[.pointer (some ⟨R, 0, none⟩), .int .i64 64] X fun e w' => ∃ u, e = .returned u ∧ (u = txt s ∧ Mod (fun q => q = R) X w' ∧ ∃ took, RdAt w' R ⟨(p.keys.drop (k + 1)).flatMap text ++ p.vals.flatMap text, took, 0⟩ ∧ took + ((p.keys.drop (k + 1)).flatMap text ++ p.vals.flatMap text).length ≤ 80000) := fun X hX => by
        have hr := (hX.block R rb id).trans hrd
        rw [hd, List.append_assoc] at hr
        rw [hd, List.append_assoc, List.length_append] at htk
        have h1 := Text_calls R _ 64 (by omega) X hr (by simp only [List.length_append] at htk ⊢; omega)
        rw [rd_text _ _ _ _ HLS.out (by have := HLS.out; omega)] at h1
        exact h1.mono (fun e w' ⟨e1, e2, e3⟩ => ⟨_, e1, rfl, e2, _, e3, by simp only [text_length] at htk; omega⟩)
      have HT := Lib.hid ht
      have HRC := Lib.hid hrd
      clear ht htake hd hrd hP hown htk
      go_wp2_with fail
      refine HE.out.mono ?_
      rintro e w' ⟨rfl, rfl⟩
      go_upto_region 7 with fail
      go_region_law (first
        | (refine step_fn rfl 122 (fun _ _ => by kernel_rfl) #[.tmp 31, .const (.int .i64 64)] #[182, 3] rfl (vs := #[.pointer (some ⟨R, 0, none⟩), .int .i64 64]) rfl (HT.out _ (by (repeat (first | with_reducible exact Mod.refl _ _ | with_reducible refine Mod.drew ?_ | with_reducible refine Mod.alloc ?_ _)))) ?_
           rintro u X2 ⟨rfl, hm2, hr2⟩
           have HX2 : Mod (fun q => q = R) wr X2 := (show Mod NoB wr _ from (by (repeat (first | with_reducible exact Mod.refl _ _ | with_reducible refine Mod.drew ?_ | with_reducible refine Mod.alloc ?_ _)))).mono (noB_sub _ _) |>.trans hm2 (fun _ _ h => h)
           have HP2 := (HX2.block P pb (by omega)).trans HP.out
           have HO2 := HO.out.keep HX2 (fun q _ e _ => by subst e; exact ⟨_, _, _, HRC.out, by decide, by decide⟩)
           obtain ⟨qb, q0, q1, q2, q3, qf⟩ := Page4.facts HP2
           have hsz2 := HX2.size)
        | (refine step_own rfl (.tmp 30) (.tmp 33) 77 rfl (v := .slice ka k kc) (v2 := .slice (some ⟨_, 0, none⟩) 1 1) rfl rfl (base := W.heap.size) (n := k) (m := 1) (xs := (p.keys.take k).map txt) (ys := [txt s]) (k + 1) ((p.keys.take (k + 1)).map txt) elemS1 (by decide) ?_ ?_ ?_ ?_ ?_ ?_ ?_ ?_
           · have := HO2.k; rw [hlen0] at this; exact own_of_mod this (by (repeat (first | with_reducible exact Mod.refl _ _ | with_reducible refine Mod.drew ?_ | with_reducible refine Mod.alloc ?_ _))) (fun _ _ => id)
           · exact part_block (by first | exact heap_alloc_at' _ _ _ rfl | exact heap_alloc_at' _ _ _ (by simp) | exact heap_alloc_old' _ _ _ (by (first | omega | (simp only [size_alloc]; omega) | (simp only [size_alloc, heap_drew]; omega))) (heap_alloc_at' _ _ _ (by first | rfl | simp))) rfl
           · intro u hu; rw [List.mem_singleton.1 hu]; rfl
           · rfl
           · omega
           · exact HTK.out.symm
           · (first | omega | (simp only [size_alloc]; omega) | (simp only [size_alloc, heap_drew]; omega))
           intro b6 c6 W6 hr6 hg6 hk6
           have HM6 : Mod (fun q => (Value.slice ka k kc).ownBlock = some q) X2 W6 := Mod.grown (by (repeat (first | with_reducible exact Mod.refl _ _ | with_reducible refine Mod.drew ?_ | with_reducible refine Mod.alloc ?_ _))) hg6 (fun q hq _ => hq)
           have HP6 := (HM6.block P qb (fun e => absurd (own_type HO2.k e HP2) (by decide))).trans HP2
           have HAN : Anew X2 (.slice ka k kc) (.slice b6 (k + 1) c6) := by
             rcases hk6 with e | e
             · exact .inl e
             · exact .inr ⟨_, e, by (first | omega | (simp only [size_alloc]; omega) | (simp only [size_alloc, heap_drew]; omega))⟩
           obtain ⟨s6, u0, u1, u2, u3, uf⟩ := Page4.facts HP6))
      all_goals go_wp2_with fail
      all_goals
        go_roundw
        case rel =>
          refine ⟨k + 1, by omega, by go_num, Lib.hid (DecAt.next (Nat.le_refl _) hDR hRP HR.out HP.out HX2 hr2 HM6 (own_hold HO2.k (by decide) (by decide)) ?_ ?_)⟩
          · exact (by (repeat (first | with_reducible exact Mod.refl _ _ | ((with_reducible refine Mod.setCell ?_ _ _ ?_); rotate_left; (intro _; rfl)))))
          · refine pageAt_mk (W6 := W6) (q := ⟨true, p.keys.take (k + 1), [], []⟩) (a1 := b6) (a2 := va) (a3 := ca) (c1 := c6) (c2 := vc) (c3 := cc) ?_ ?_ (by (repeat (first | with_reducible exact Mod.refl _ _ | ((with_reducible refine Mod.setCell ?_ _ _ ?_); rotate_left; (intro _; rfl))))) HP6
            · simp only [heap_setCell, if_true, HP6, Option.map_some, setAt_cells, List.setIfInBounds_toArray, List.set_cons_zero, List.set_cons_succ, hlen1, List.length_nil]
            · simp only [hlen1, List.length_nil]
              exact HO2.addK (by rw [hlen1]; exact hr6) HM6 HAN
        case measure => simp [intOf]; omega
    · have hk' : k = p.keys.length := by omega
      subst hk'
      have HN : Hid (DecAt W W.heap.size R P ⟨true, p.keys, [], []⟩ (p.vals.flatMap text) wr) := by
        have h := HR.out
        rw [List.take_length, List.drop_length, List.flatMap_nil, List.nil_append] at h
        exact h
      go_wp2_with fail
      clear HR H0 HP HO HE hrd htk hP hown p0 p1 p2 p3 pf r0 r1 r2 rf took
      clear hlen0 ka kc va vc ca cc
      have H0 : Hid (DecAt W W.heap.size R P ⟨true, p.keys, p.vals.take 0, []⟩ ((p.vals.drop 0).flatMap text ++ []) wr) := Lib.hid (by
        have h := HN.out
        simpa using h)
      clear HN
      go_loopw [8] (fun i wr => ∃ k : Nat, k ≤ p.vals.length ∧ i = .int .i64 k ∧ Hid (DecAt W W.heap.size R P ⟨true, p.keys, p.vals.take k, []⟩ ((p.vals.drop k).flatMap text ++ []) wr)) (fun i _ => p.vals.length - (intOf i).toNat)
      case atStart => exact ⟨0, by omega, rfl, H0⟩
      case round =>
        obtain ⟨k, hk, rfl, HR⟩ := hrel
        obtain ⟨took, hrd, htk⟩ := HR.out.rd
        obtain ⟨rb, r0, r1, r2, rf⟩ := hrd.facts
        have HE := Lib.hid (Err_calls R _ wr hrd)
        simp only at r0 r1 r2 HE
        have hWR := HR.out.mod.size
        have hlen0 : (p.vals.take k).length = k := by rw [List.length_take]; omega
        obtain ⟨ka, kc, va, vc, ca, cc, hP, hown⟩ := HR.out.page
        simp only [hlen0, List.length_nil] at hP hown
        obtain ⟨pb, p0, p1, p2, p3, pf⟩ := Page4.facts hP
        have HP := Lib.hid hP
        have HO := Lib.hid hown
        by_cases hlt : k < p.vals.length
        · have hd := flat_drop text p.vals k hlt
          have HLS := Lib.hid ((HVL.out _ (List.getElem_mem hlt) : p.vals[k].length ≤ 8192))
          have htake : (p.vals.take (k + 1)).map txt = (p.vals.take k).map txt ++ [txt p.vals[k]] := by rw [List.take_succ_eq_append_getElem hlt, List.map_append]; rfl
          have HTK := Lib.hid htake
          have hlen1 : (p.vals.take (k + 1)).length = k + 1 := by rw [List.length_take]; omega
          generalize p.vals[k] = s at *
          have ht : ∀ X, Mod NoB wr X → Calls Tryz.prog 122 #[.pointer (some ⟨R, 0, none⟩), .int .i64 8192] X fun e w' => ∃ u, e = .returned u ∧ (u = txt s ∧ Mod (fun q => q = R) X w' ∧ ∃ took, RdAt w' R ⟨(p.vals.drop (k + 1)).flatMap text ++ [], took, 0⟩ ∧ took + ((p.vals.drop (k + 1)).flatMap text ++ []).length ≤ 80000) := fun X hX => by
            have hr := (hX.block R rb id).trans hrd
            rw [hd, List.append_assoc] at hr
            rw [hd, List.append_assoc, List.length_append] at htk
            have h1 := Text_calls R _ 8192 (by omega) X hr (by simp only [List.length_append] at htk ⊢; omega)
            rw [rd_text _ _ _ _ HLS.out (by have := HLS.out; omega)] at h1
            exact h1.mono (fun e w' ⟨e1, e2, e3⟩ => ⟨_, e1, rfl, e2, _, e3, by simp only [text_length] at htk; omega⟩)
          have HT := Lib.hid ht
          have HRC := Lib.hid hrd
          clear ht htake hd hrd hP hown htk
          go_wp2_with fail
          refine HE.out.mono ?_
          rintro e w' ⟨rfl, rfl⟩
          go_upto_region 11 with fail
          go_region_law (first
            | (refine step_fn rfl 122 (fun _ _ => by kernel_rfl) #[.tmp 52, .const (.int .i64 8192)] #[182, 3] rfl (vs := #[.pointer (some ⟨R, 0, none⟩), .int .i64 8192]) rfl (HT.out _ (by (repeat (first | with_reducible exact Mod.refl _ _ | with_reducible refine Mod.drew ?_ | with_reducible refine Mod.alloc ?_ _)))) ?_
               rintro u X2 ⟨rfl, hm2, hr2⟩
               have HX2 : Mod (fun q => q = R) wr X2 := (show Mod NoB wr _ from (by (repeat (first | with_reducible exact Mod.refl _ _ | with_reducible refine Mod.drew ?_ | with_reducible refine Mod.alloc ?_ _)))).mono (noB_sub _ _) |>.trans hm2 (fun _ _ h => h)
               have HP2 := (HX2.block P pb (by omega)).trans HP.out
               have HO2 := HO.out.keep HX2 (fun q _ e _ => by subst e; exact ⟨_, _, _, HRC.out, by decide, by decide⟩)
               obtain ⟨qb, q0, q1, q2, q3, qf⟩ := Page4.facts HP2
               have hsz2 := HX2.size)
            | (refine step_own rfl (.tmp 51) (.tmp 54) 77 rfl (v := .slice va k vc) (v2 := .slice (some ⟨_, 0, none⟩) 1 1) rfl rfl (base := W.heap.size) (n := k) (m := 1) (xs := (p.vals.take k).map txt) (ys := [txt s]) (k + 1) ((p.vals.take (k + 1)).map txt) elemS1 (by decide) ?_ ?_ ?_ ?_ ?_ ?_ ?_ ?_
               · have := HO2.v; rw [hlen0] at this; exact own_of_mod this (by (repeat (first | with_reducible exact Mod.refl _ _ | with_reducible refine Mod.drew ?_ | with_reducible refine Mod.alloc ?_ _))) (fun _ _ => id)
               · exact part_block (by first | exact heap_alloc_at' _ _ _ rfl | exact heap_alloc_at' _ _ _ (by simp) | exact heap_alloc_old' _ _ _ (by (first | omega | (simp only [size_alloc]; omega) | (simp only [size_alloc, heap_drew]; omega))) (heap_alloc_at' _ _ _ (by first | rfl | simp))) rfl
               · intro u hu; rw [List.mem_singleton.1 hu]; rfl
               · rfl
               · omega
               · exact HTK.out.symm
               · (first | omega | (simp only [size_alloc]; omega) | (simp only [size_alloc, heap_drew]; omega))
               intro b6 c6 W6 hr6 hg6 hk6
               have HM6 : Mod (fun q => (Value.slice va k vc).ownBlock = some q) X2 W6 := Mod.grown (by (repeat (first | with_reducible exact Mod.refl _ _ | with_reducible refine Mod.drew ?_ | with_reducible refine Mod.alloc ?_ _))) hg6 (fun q hq _ => hq)
               have HP6 := (HM6.block P qb (fun e => absurd (own_type HO2.v e HP2) (by decide))).trans HP2
               have HAN : Anew X2 (.slice va k vc) (.slice b6 (k + 1) c6) := by
                 rcases hk6 with e | e
                 · exact .inl e
                 · exact .inr ⟨_, e, by (first | omega | (simp only [size_alloc]; omega) | (simp only [size_alloc, heap_drew]; omega))⟩
               obtain ⟨s6, u0, u1, u2, u3, uf⟩ := Page4.facts HP6))
          all_goals go_wp2_with fail
          all_goals
            go_roundw
            case rel =>
              refine ⟨k + 1, by omega, by go_num, Lib.hid (DecAt.next (Nat.le_refl _) hDR hRP HR.out HP.out HX2 hr2 HM6 (own_hold HO2.v (by decide) (by decide)) ?_ ?_)⟩
              · exact (by (repeat (first | with_reducible exact Mod.refl _ _ | ((with_reducible refine Mod.setCell ?_ _ _ ?_); rotate_left; (intro _; rfl)))))
              · refine pageAt_mk (W6 := W6) (q := ⟨true, p.keys, p.vals.take (k + 1), []⟩) (a1 := ka) (a2 := b6) (a3 := ca) (c1 := kc) (c2 := c6) (c3 := cc) ?_ ?_ (by (repeat (first | with_reducible exact Mod.refl _ _ | ((with_reducible refine Mod.setCell ?_ _ _ ?_); rotate_left; (intro _; rfl))))) HP6
                · simp only [heap_setCell, if_true, HP6, Option.map_some, setAt_cells, List.setIfInBounds_toArray, List.set_cons_zero, List.set_cons_succ, hlen1, List.length_nil]
                · simp only [hlen1, List.length_nil]
                  exact HO2.addV (by rw [hlen1]; exact hr6) HM6 HAN
            case measure => simp [intOf]; omega
        · have hk' : k = p.vals.length := by omega
          subst hk'
          have HN : Hid (DecAt W W.heap.size R P ⟨true, p.keys, p.vals, []⟩ ([]) wr) := by
            have h := HR.out
            rw [List.take_length, List.drop_length, List.flatMap_nil, List.nil_append] at h
            exact h
          go_wp2_with fail
          clear HR H0 HP HO HE hrd htk hP hown p0 p1 p2 p3 pf r0 r1 r2 rf took
          clear hlen0 ka kc va vc ca cc
          go_loopw [9] (fun i wx => i = .int .i64 0 ∧ wr = wx) (fun _ _ => 0)
          case atStart => exact ⟨rfl, rfl⟩
          case round =>
            obtain ⟨rfl, rfl⟩ := hrel
            obtain ⟨ka, kc, va, vc, ca, cc, hP, hown⟩ := HN.out.page
            obtain ⟨pb, p0, p1, p2, p3, pf⟩ := Page4.facts hP
            simp only at p0
            clear hown hP
            go_wp2_with fail
            clear p0 p1 p2 p3 pf pb ka kc va vc ca cc
            obtain ⟨took, hrd, htk⟩ := HN.out.rd
            have HEND := Lib.hid (End_calls R took wr (by simpa using hrd))
            obtain ⟨ka, kc, va, vc, ca, cc, hP, hown⟩ := HN.out.page
            obtain ⟨pb, p0, p1, p2, p3, pf⟩ := Page4.facts hP
            obtain ⟨db, d0, d1, d2, d3, df⟩ := Page4.facts HN.out.res
            have HP := Lib.hid hP
            have HO := Lib.hid hown
            have hWR := HN.out.mod.size
            clear hrd htk hP hown
            refine HEND.out.mono ?_
            rintro e w' ⟨rfl, rfl⟩
            have hchk := Check_calls (⟨true, p.keys, p.vals, []⟩ : Pg) _ _ _ wr (HO.out.in1 (p := (⟨true, p.keys, p.vals, []⟩ : Pg))) HPQ.out
            simp only [List.length_nil, g2] at hchk
            have HCHK := Lib.hid hchk
            clear hchk
            go_wp2_with fail
            refine HCHK.out.mono ?_
            rintro e w6 ⟨rfl, hm6⟩
            have hP6 := (hm6.block P pb id).trans HP.out
            have hD6 := (hm6.block W.heap.size db id).trans HN.out.res
            have HO6 := Lib.hid (HO.out.mod hm6)
            have HM6 := Lib.hid (HN.out.mod.trans hm6 (fun _ _ h => h))
            clear hm6 HCHK HEND HP HO p0 p1 p2 p3 pf pb d0 d1 d2 d3 df db
            simp only [List.length_nil, g2] at hP6
            obtain ⟨pb, p0, p1, p2, p3, pf⟩ := Page4.facts hP6
            obtain ⟨db, d0, d1, d2, d3, df⟩ := Page4.facts hD6
            have HD6 := Lib.hid hD6
            clear hP6 hD6
            go_wp2_with fail
            refine at_world6 (P := bodyPost _ _ _ _ _) (fun X => X.heap[W.heap.size]? = some (.cells #[.bool true, .slice ka p.keys.length kc, .slice va p.keys.length vc, .slice ca 0 cc] 130 (0, 0)) ∧ Mod (fun k => k = W.heap.size) w6 X) ?_ ?_
            · refine ⟨?_, ?_⟩
              · simp only [heap_setCell, if_true, HD6.out, Option.map_some, setAt_cells, List.setIfInBounds_toArray, List.set_cons_zero, List.set_cons_succ]
              · repeat (first | with_reducible exact Mod.refl _ _ | ((with_reducible refine Mod.setCell ?_ _ _ ?_); rotate_left; (intro _; rfl)))
            · rintro X ⟨hDX, hMX⟩
              obtain ⟨tb, t0, t1, t2, t3, tf⟩ := Page4.facts hDX
              refine bodyPost_ret (v := .tuple #[.agg #[.bool true, .slice ka p.keys.length kc, .slice va p.keys.length vc, .slice ca 0 cc], .int .i64 0]) (by simp [results, Tryz.f82, go_sem, t0, t1, t2, t3]) rfl ⟨.slice ka p.keys.length kc, .slice va p.keys.length vc, .slice ca 0 cc, ?_, ?_, ?_⟩
              · unfold pageV; rw [HL.out]
              · have h := HO6.out.keep hMX (fun q _ e _ => by subst e; exact ⟨_, _, _, HD6.out, by decide, by decide⟩)
                simp only [List.length_nil, g2] at h
                rw [HKV.out]
                exact h
              · exact HM6.out.trans hMX (fun q hq e => by omega)

set_option maxRecDepth 100000 in
set_option maxHeartbeats 12800000 in
theorem Decode_node (p : Pg) (w : World) (hp : pgOk p) (hl : p.leaf = false) :
    Calls Tryz.prog 82 #[.string ⟨(encP p).toArray⟩] w fun e w' => ∃ kv vv cv, e = .returned (.tuple #[pageV p kv vv cv, .int .i64 0]) ∧ PgOwn w' w.heap.size kv vv cv p.keys p.vals p.kids ∧ Mod NoB w w' := by
  have hle := encP_le hp
  have HPG := Lib.hid hp
  obtain ⟨h1, h2, h3, h4, h5⟩ := hp
  have HKL := Lib.hid h2

  obtain ⟨g0, g1, g2, g3⟩ := h5 hl
  have HCL := Lib.hid g3
  have HENC : Hid (encP p = numLE 0 1 ++ (numLE p.keys.length 1 ++ (p.keys.flatMap text ++ p.kids.flatMap (fun k => numLE k 4)))) := by
    show _ = _
    unfold encP
    rw [hl, g0]
    rfl
  have HKV : Hid (p.vals = []) := g0
  have HPQ : Hid (pgOk ⟨false, p.keys, [], p.kids⟩) := by
    have h := HPG.out
    have e : p = ⟨false, p.keys, [], p.kids⟩ := by
      obtain ⟨a, b, c, d⟩ := p
      simp only at hl g0
      rw [hl, g0]
    rw [e] at h
    exact h
  clear g0 g3

  have HL := Lib.hid hl
  clear h1 h2 h4 h5 hl
  rw [HENC.out] at hle ⊢
  generalize hW : w = W at *
  clear hW w
  obtain ⟨W1, hW1⟩ : ∃ W1, W.alloc (.cells #[.bool false, .slice none 0 0, .slice none 0 0, .slice none 0 0] 130) = W1 := ⟨_, rfl⟩
  have hm1 : Mod NoB W W1 := by rw [← hW1]; exact (Mod.refl _ _).alloc _
  have hD1 : W1.heap[W.heap.size]? = some (.cells #[.bool false, .slice none 0 0, .slice none 0 0, .slice none 0 0] 130 (0, 0)) := by rw [← hW1]; exact heap_alloc_new _ _
  have HM1 := Lib.hid hm1
  have HD1 := Lib.hid hD1
  clear hm1 hD1
  go_enter Tryz.func82, Tryz.ntmps82
  go_wp2_with fail
  clear hW1
  refine (NewReader_calls _ _).mono ?_
  rintro e W2 ⟨rfl, hm2, hr2⟩
  have hDR : W.heap.size < W1.heap.size := lt_heap HD1.out
  generalize hRe : W1.heap.size = R at *
  have hRW2 : R < W2.heap.size := lt_heap hr2
  have HD2 := Lib.hid ((hm2.block _ (by omega) id).trans HD1.out)
  have HM2 := Lib.hid (HM1.out.trans hm2 (fun _ _ h => h))
  have HB := Lib.hid (RBool_calls R false _ 0 W2 hr2 (by simp only [List.length_append, numLE_length] at hle ⊢; omega))
  clear hm2 hr2 hRe HD1 HM1
  go_wp2_with fail
  refine HB.out.mono ?_
  rintro e W3 ⟨rfl, hm3, hr3⟩
  have HD3 := Lib.hid ((hm3.block W.heap.size (by omega) (by omega)).trans HD2.out)
  have HM3 := Lib.hid (HM2.out.trans hm3 (fun q hq e => by omega))
  have HR3 := Lib.hid hr3
  have hRW3 : R < W3.heap.size := lt_heap hr3
  clear hm3 hr3 HB HD2 HM2
  have hm4 : Mod NoB W3 (W3.alloc (.cells #[.bool false, .slice none 0 0, .slice none 0 0, .slice none 0 0] 130)) := (Mod.refl _ _).alloc _
  have hP4 : (W3.alloc (.cells #[.bool false, .slice none 0 0, .slice none 0 0, .slice none 0 0] 130)).heap[W3.heap.size]? = some (.cells #[.bool false, .slice none 0 0, .slice none 0 0, .slice none 0 0] 130 (0, 0)) := heap_alloc_new _ _
  have HD4 := Lib.hid ((hm4.block W.heap.size (by omega) id).trans HD3.out)
  have HM4 := Lib.hid (HM3.out.trans hm4 (fun _ _ h => h))
  have hr4 : RdAt (W3.alloc (.cells #[.bool false, .slice none 0 0, .slice none 0 0, .slice none 0 0] 130)) R _ := (hm4.block R hRW3 id).trans HR3.out
  have hN := RNumber_calls R _ 1 (by omega) _ hr4 (by simp only [List.length_append, numLE_length] at hle ⊢; omega)
  rw [rd_number p.keys.length 1 _ _ (by omega)] at hN
  have HN4 := Lib.hid hN
  have HP4 := Lib.hid hP4
  clear hm4 hP4 hr4 hN HD3 HM3 HR3
  go_wp2_with fail
  refine HN4.out.mono ?_
  rintro e W5 ⟨rfl, hm5, hr5⟩
  have hRP : R < W3.heap.size := hRW3
  have hPs : W3.heap.size < (W3.alloc (.cells #[.bool false, .slice none 0 0, .slice none 0 0, .slice none 0 0] 130)).heap.size := by rw [size_alloc]; omega
  have H0 : Hid (DecAt W W.heap.size R W3.heap.size ⟨false, p.keys.take 0, [], []⟩ ((p.keys.drop 0).flatMap text ++ p.kids.flatMap (fun k => numLE k 4)) W5) :=
    ⟨⟨_, hr5, by simp only [List.length_append, numLE_length, List.drop_zero] at hle ⊢; omega⟩, (hm5.block W.heap.size (by omega) (by omega)).trans HD4.out, ⟨none, 0, none, 0, none, 0, (hm5.block W3.heap.size hPs (by omega)).trans HP4.out, PgOwn.nil _ _⟩, HM4.out.trans hm5 (fun q hq e => by omega)⟩
  clear hPs hm5 hr5 HN4 HD4 HM4 HP4 hle HENC hRW2
  generalize W3.heap.size = P at *
  clear hRW3 W2 W3 W1
  go_wp2_with fail
  go_loopw [7] (fun i wr => ∃ k : Nat, k ≤ p.keys.length ∧ i = .int .i64 k ∧ Hid (DecAt W W.heap.size R P ⟨false, p.keys.take k, [], []⟩ ((p.keys.drop k).flatMap text ++ p.kids.flatMap (fun k => numLE k 4)) wr)) (fun i _ => p.keys.length - (intOf i).toNat)
  case atStart => exact ⟨0, by omega, rfl, H0⟩
  case round =>
    obtain ⟨k, hk, rfl, HR⟩ := hrel
    obtain ⟨took, hrd, htk⟩ := HR.out.rd
    obtain ⟨rb, r0, r1, r2, rf⟩ := hrd.facts
    have HE := Lib.hid (Err_calls R _ wr hrd)
    simp only at r0 r1 r2 HE
    have hWR := HR.out.mod.size
    have hlen0 : (p.keys.take k).length = k := by rw [List.length_take]; omega
    obtain ⟨ka, kc, va, vc, ca, cc, hP, hown⟩ := HR.out.page
    simp only [hlen0, List.length_nil] at hP hown
    obtain ⟨pb, p0, p1, p2, p3, pf⟩ := Page4.facts hP
    have HP := Lib.hid hP
    have HO := Lib.hid hown
    by_cases hlt : k < p.keys.length
    · have hd := flat_drop text p.keys k hlt
      have HLS := Lib.hid (((HKL.out _ (List.getElem_mem hlt)).2 : p.keys[k].length ≤ 64))
      have htake : (p.keys.take (k + 1)).map txt = (p.keys.take k).map txt ++ [txt p.keys[k]] := by rw [List.take_succ_eq_append_getElem hlt, List.map_append]; rfl
      have HTK := Lib.hid htake
      have hlen1 : (p.keys.take (k + 1)).length = k + 1 := by rw [List.length_take]; omega
      generalize p.keys[k] = s at *
      have ht : ∀ X, Mod NoB wr X → Calls Tryz.prog 122 #[.pointer (some ⟨R, 0, none⟩), .int .i64 64] X fun e w' => ∃ u, e = .returned u ∧ (u = txt s ∧ Mod (fun q => q = R) X w' ∧ ∃ took, RdAt w' R ⟨(p.keys.drop (k + 1)).flatMap text ++ p.kids.flatMap (fun k => numLE k 4), took, 0⟩ ∧ took + ((p.keys.drop (k + 1)).flatMap text ++ p.kids.flatMap (fun k => numLE k 4)).length ≤ 80000) := fun X hX => by
        have hr := (hX.block R rb id).trans hrd
        rw [hd, List.append_assoc] at hr
        rw [hd, List.append_assoc, List.length_append] at htk
        have h1 := Text_calls R _ 64 (by omega) X hr (by simp only [List.length_append] at htk ⊢; omega)
        rw [rd_text _ _ _ _ HLS.out (by have := HLS.out; omega)] at h1
        exact h1.mono (fun e w' ⟨e1, e2, e3⟩ => ⟨_, e1, rfl, e2, _, e3, by simp only [text_length] at htk; omega⟩)
      have HT := Lib.hid ht
      have HRC := Lib.hid hrd
      clear ht htake hd hrd hP hown htk
      go_wp2_with fail
      refine HE.out.mono ?_
      rintro e w' ⟨rfl, rfl⟩
      go_upto_region 7 with fail
      go_region_law (first
        | (refine step_fn rfl 122 (fun _ _ => by kernel_rfl) #[.tmp 31, .const (.int .i64 64)] #[182, 3] rfl (vs := #[.pointer (some ⟨R, 0, none⟩), .int .i64 64]) rfl (HT.out _ (by (repeat (first | with_reducible exact Mod.refl _ _ | with_reducible refine Mod.drew ?_ | with_reducible refine Mod.alloc ?_ _)))) ?_
           rintro u X2 ⟨rfl, hm2, hr2⟩
           have HX2 : Mod (fun q => q = R) wr X2 := (show Mod NoB wr _ from (by (repeat (first | with_reducible exact Mod.refl _ _ | with_reducible refine Mod.drew ?_ | with_reducible refine Mod.alloc ?_ _)))).mono (noB_sub _ _) |>.trans hm2 (fun _ _ h => h)
           have HP2 := (HX2.block P pb (by omega)).trans HP.out
           have HO2 := HO.out.keep HX2 (fun q _ e _ => by subst e; exact ⟨_, _, _, HRC.out, by decide, by decide⟩)
           obtain ⟨qb, q0, q1, q2, q3, qf⟩ := Page4.facts HP2
           have hsz2 := HX2.size)
        | (refine step_own rfl (.tmp 30) (.tmp 33) 77 rfl (v := .slice ka k kc) (v2 := .slice (some ⟨_, 0, none⟩) 1 1) rfl rfl (base := W.heap.size) (n := k) (m := 1) (xs := (p.keys.take k).map txt) (ys := [txt s]) (k + 1) ((p.keys.take (k + 1)).map txt) elemS1 (by decide) ?_ ?_ ?_ ?_ ?_ ?_ ?_ ?_
           · have := HO2.k; rw [hlen0] at this; exact own_of_mod this (by (repeat (first | with_reducible exact Mod.refl _ _ | with_reducible refine Mod.drew ?_ | with_reducible refine Mod.alloc ?_ _))) (fun _ _ => id)
           · exact part_block (by first | exact heap_alloc_at' _ _ _ rfl | exact heap_alloc_at' _ _ _ (by simp) | exact heap_alloc_old' _ _ _ (by (first | omega | (simp only [size_alloc]; omega) | (simp only [size_alloc, heap_drew]; omega))) (heap_alloc_at' _ _ _ (by first | rfl | simp))) rfl
           · intro u hu; rw [List.mem_singleton.1 hu]; rfl
           · rfl
           · omega
           · exact HTK.out.symm
           · (first | omega | (simp only [size_alloc]; omega) | (simp only [size_alloc, heap_drew]; omega))
           intro b6 c6 W6 hr6 hg6 hk6
           have HM6 : Mod (fun q => (Value.slice ka k kc).ownBlock = some q) X2 W6 := Mod.grown (by (repeat (first | with_reducible exact Mod.refl _ _ | with_reducible refine Mod.drew ?_ | with_reducible refine Mod.alloc ?_ _))) hg6 (fun q hq _ => hq)
           have HP6 := (HM6.block P qb (fun e => absurd (own_type HO2.k e HP2) (by decide))).trans HP2
           have HAN : Anew X2 (.slice ka k kc) (.slice b6 (k + 1) c6) := by
             rcases hk6 with e | e
             · exact .inl e
             · exact .inr ⟨_, e, by (first | omega | (simp only [size_alloc]; omega) | (simp only [size_alloc, heap_drew]; omega))⟩
           obtain ⟨s6, u0, u1, u2, u3, uf⟩ := Page4.facts HP6))
      all_goals go_wp2_with fail
      all_goals
        go_roundw
        case rel =>
          refine ⟨k + 1, by omega, by go_num, Lib.hid (DecAt.next (Nat.le_refl _) hDR hRP HR.out HP.out HX2 hr2 HM6 (own_hold HO2.k (by decide) (by decide)) ?_ ?_)⟩
          · exact (by (repeat (first | with_reducible exact Mod.refl _ _ | ((with_reducible refine Mod.setCell ?_ _ _ ?_); rotate_left; (intro _; rfl)))))
          · refine pageAt_mk (W6 := W6) (q := ⟨false, p.keys.take (k + 1), [], []⟩) (a1 := b6) (a2 := va) (a3 := ca) (c1 := c6) (c2 := vc) (c3 := cc) ?_ ?_ (by (repeat (first | with_reducible exact Mod.refl _ _ | ((with_reducible refine Mod.setCell ?_ _ _ ?_); rotate_left; (intro _; rfl))))) HP6
            · simp only [heap_setCell, if_true, HP6, Option.map_some, setAt_cells, List.setIfInBounds_toArray, List.set_cons_zero, List.set_cons_succ, hlen1, List.length_nil]
            · simp only [hlen1, List.length_nil]
              exact HO2.addK (by rw [hlen1]; exact hr6) HM6 HAN
        case measure => simp [intOf]; omega
    · have hk' : k = p.keys.length := by omega
      subst hk'
      have HN : Hid (DecAt W W.heap.size R P ⟨false, p.keys, [], []⟩ (p.kids.flatMap (fun k => numLE k 4)) wr) := by
        have h := HR.out
        rw [List.take_length, List.drop_length, List.flatMap_nil, List.nil_append] at h
        exact h
      go_wp2_with fail
      clear HR H0 HP HO HE hrd htk hP hown p0 p1 p2 p3 pf r0 r1 r2 rf took
      clear hlen0 ka kc va vc ca cc
      go_loopw [8] (fun i wx => i = .int .i64 0 ∧ wr = wx) (fun _ _ => 0)
      case atStart => exact ⟨rfl, rfl⟩
      case round =>
        obtain ⟨rfl, rfl⟩ := hrel
        obtain ⟨ka, kc, va, vc, ca, cc, hP, hown⟩ := HN.out.page
        obtain ⟨pb, p0, p1, p2, p3, pf⟩ := Page4.facts hP
        simp only at p0
        clear hown hP
        go_wp2_with fail
        clear p0 p1 p2 p3 pf pb ka kc va vc ca cc
        have H0 : Hid (DecAt W W.heap.size R P ⟨false, p.keys, [], p.kids.take 0⟩ ((p.kids.drop 0).flatMap (fun k => numLE k 4) ++ []) wr) := Lib.hid (by
          have h := HN.out
          simpa using h)
        clear HN
        go_loopw [9] (fun i wr => ∃ k : Nat, k ≤ p.kids.length ∧ i = .int .i64 k ∧ Hid (DecAt W W.heap.size R P ⟨false, p.keys, [], p.kids.take k⟩ ((p.kids.drop k).flatMap (fun k => numLE k 4) ++ []) wr)) (fun i _ => p.kids.length - (intOf i).toNat)
        case atStart => exact ⟨0, by omega, rfl, H0⟩
        case round =>
          obtain ⟨k, hk, rfl, HR⟩ := hrel
          obtain ⟨took, hrd, htk⟩ := HR.out.rd
          obtain ⟨rb, r0, r1, r2, rf⟩ := hrd.facts
          have HE := Lib.hid (Err_calls R _ wr hrd)
          simp only at r0 r1 r2 HE
          have hWR := HR.out.mod.size
          have hlen0 : (p.kids.take k).length = k := by rw [List.length_take]; omega
          obtain ⟨ka, kc, va, vc, ca, cc, hP, hown⟩ := HR.out.page
          simp only [hlen0, List.length_nil] at hP hown
          obtain ⟨pb, p0, p1, p2, p3, pf⟩ := Page4.facts hP
          have HP := Lib.hid hP
          have HO := Lib.hid hown
          by_cases hlt : k < p.kids.length
          · have hd := flat_drop' (fun k => numLE k 4) p.kids k hlt
            have HLS := Lib.hid ((HCL.out _ (List.getElem_mem hlt) : p.kids[k] ≤ 2147483647))
            have htake : (p.kids.take (k + 1)).map numV = (p.kids.take k).map numV ++ [numV p.kids[k]] := by rw [List.take_succ_eq_append_getElem hlt, List.map_append]; rfl
            have HTK := Lib.hid htake
            have hlen1 : (p.kids.take (k + 1)).length = k + 1 := by rw [List.length_take]; omega
            generalize p.kids[k] = s at *
            have ht : ∀ X, Mod NoB wr X → Calls Tryz.prog 112 #[.pointer (some ⟨R, 0, none⟩), .int .i64 2147483647] X fun e w' => ∃ u, e = .returned u ∧ (u = numV s ∧ Mod (fun q => q = R) X w' ∧ ∃ took, RdAt w' R ⟨(p.kids.drop (k + 1)).flatMap (fun k => numLE k 4) ++ [], took, 0⟩ ∧ took + ((p.kids.drop (k + 1)).flatMap (fun k => numLE k 4) ++ []).length ≤ 80000) := fun X hX => by
              have hr := (hX.block R rb id).trans hrd
              rw [hd, List.append_assoc] at hr
              rw [hd, List.append_assoc, List.length_append] at htk
              have h1 := Count_calls R _ 2147483647 (by omega) X hr (by simp only [List.length_append] at htk ⊢; omega)
              rw [rd_count _ _ _ _ HLS.out (by have := HLS.out; omega)] at h1
              exact h1.mono (fun e w' ⟨e1, e2, e3⟩ => ⟨_, e1, rfl, e2, _, e3, by simp only [numLE_length] at htk; omega⟩)
            have HT := Lib.hid ht
            have HRC := Lib.hid hrd
            clear ht htake hd hrd hP hown htk
            go_wp2_with fail
            refine HE.out.mono ?_
            rintro e w' ⟨rfl, rfl⟩
            go_upto_region 15 with fail
            go_region_law (first
              | (refine step_fn rfl 112 (fun _ _ => by kernel_rfl) #[.tmp 74, .const (.int .i64 2147483647)] #[182, 3] rfl (vs := #[.pointer (some ⟨R, 0, none⟩), .int .i64 2147483647]) rfl (HT.out _ (by (repeat (first | with_reducible exact Mod.refl _ _ | with_reducible refine Mod.drew ?_ | with_reducible refine Mod.alloc ?_ _)))) ?_
                 rintro u X2 ⟨rfl, hm2, hr2⟩
                 have HX2 : Mod (fun q => q = R) wr X2 := (show Mod NoB wr _ from (by (repeat (first | with_reducible exact Mod.refl _ _ | with_reducible refine Mod.drew ?_ | with_reducible refine Mod.alloc ?_ _)))).mono (noB_sub _ _) |>.trans hm2 (fun _ _ h => h)
                 have HP2 := (HX2.block P pb (by omega)).trans HP.out
                 have HO2 := HO.out.keep HX2 (fun q _ e _ => by subst e; exact ⟨_, _, _, HRC.out, by decide, by decide⟩)
                 obtain ⟨qb, q0, q1, q2, q3, qf⟩ := Page4.facts HP2
                 have hsz2 := HX2.size)
              | (refine step_own rfl (.tmp 73) (.tmp 76) 38 rfl (v := .slice ca k cc) (v2 := .slice (some ⟨_, 0, none⟩) 1 1) rfl rfl (base := W.heap.size) (n := k) (m := 1) (xs := (p.kids.take k).map numV) (ys := [numV s]) (k + 1) ((p.kids.take (k + 1)).map numV) elemI1 (by decide) ?_ ?_ ?_ ?_ ?_ ?_ ?_ ?_
                 · have := HO2.c; rw [hlen0] at this; exact own_of_mod this (by (repeat (first | with_reducible exact Mod.refl _ _ | with_reducible refine Mod.drew ?_ | with_reducible refine Mod.alloc ?_ _))) (fun _ _ => id)
                 · exact part_block (by first | exact heap_alloc_at' _ _ _ rfl | exact heap_alloc_at' _ _ _ (by simp) | exact heap_alloc_old' _ _ _ (by (first | omega | (simp only [size_alloc]; omega) | (simp only [size_alloc, heap_drew]; omega))) (heap_alloc_at' _ _ _ (by first | rfl | simp))) rfl
                 · intro u hu; rw [List.mem_singleton.1 hu]; rfl
                 · rfl
                 · omega
                 · exact HTK.out.symm
                 · (first | omega | (simp only [size_alloc]; omega) | (simp only [size_alloc, heap_drew]; omega))
                 intro b6 c6 W6 hr6 hg6 hk6
                 have HM6 : Mod (fun q => (Value.slice ca k cc).ownBlock = some q) X2 W6 := Mod.grown (by (repeat (first | with_reducible exact Mod.refl _ _ | with_reducible refine Mod.drew ?_ | with_reducible refine Mod.alloc ?_ _))) hg6 (fun q hq _ => hq)
                 have HP6 := (HM6.block P qb (fun e => absurd (own_type HO2.c e HP2) (by decide))).trans HP2
                 have HAN : Anew X2 (.slice ca k cc) (.slice b6 (k + 1) c6) := by
                   rcases hk6 with e | e
                   · exact .inl e
                   · exact .inr ⟨_, e, by (first | omega | (simp only [size_alloc]; omega) | (simp only [size_alloc, heap_drew]; omega))⟩
                 obtain ⟨s6, u0, u1, u2, u3, uf⟩ := Page4.facts HP6))
            all_goals go_wp2_with fail
            all_goals
              go_roundw
              case rel =>
                refine ⟨k + 1, by omega, by go_num, Lib.hid (DecAt.next (Nat.le_refl _) hDR hRP HR.out HP.out HX2 hr2 HM6 (own_hold HO2.c (by decide) (by decide)) ?_ ?_)⟩
                · exact (by (repeat (first | with_reducible exact Mod.refl _ _ | ((with_reducible refine Mod.setCell ?_ _ _ ?_); rotate_left; (intro _; rfl)))))
                · refine pageAt_mk (W6 := W6) (q := ⟨false, p.keys, [], p.kids.take (k + 1)⟩) (a1 := ka) (a2 := va) (a3 := b6) (c1 := kc) (c2 := vc) (c3 := c6) ?_ ?_ (by (repeat (first | with_reducible exact Mod.refl _ _ | ((with_reducible refine Mod.setCell ?_ _ _ ?_); rotate_left; (intro _; rfl))))) HP6
                  · simp only [heap_setCell, if_true, HP6, Option.map_some, setAt_cells, List.setIfInBounds_toArray, List.set_cons_zero, List.set_cons_succ, hlen1, List.length_nil]
                  · simp only [hlen1, List.length_nil]
                    exact HO2.addC (by rw [hlen1]; exact hr6) HM6
              case measure => simp [intOf]; omega
          · have hk' : k = p.kids.length := by omega
            subst hk'
            have HN : Hid (DecAt W W.heap.size R P ⟨false, p.keys, [], p.kids⟩ ([]) wr) := by
              have h := HR.out
              rw [List.take_length, List.drop_length, List.flatMap_nil, List.nil_append] at h
              exact h
            go_wp2_with fail
            clear HR H0 HP HO HE hrd htk hP hown p0 p1 p2 p3 pf r0 r1 r2 rf took
            clear hlen0 ka kc va vc ca cc
            obtain ⟨took, hrd, htk⟩ := HN.out.rd
            have HEND := Lib.hid (End_calls R took wr (by simpa using hrd))
            obtain ⟨ka, kc, va, vc, ca, cc, hP, hown⟩ := HN.out.page
            obtain ⟨pb, p0, p1, p2, p3, pf⟩ := Page4.facts hP
            obtain ⟨db, d0, d1, d2, d3, df⟩ := Page4.facts HN.out.res
            have HP := Lib.hid hP
            have HO := Lib.hid hown
            have hWR := HN.out.mod.size
            clear hrd htk hP hown
            refine HEND.out.mono ?_
            rintro e w' ⟨rfl, rfl⟩
            have hchk := Check_calls (⟨false, p.keys, [], p.kids⟩ : Pg) _ _ _ wr (HO.out.in1 (p := (⟨false, p.keys, [], p.kids⟩ : Pg))) HPQ.out
            simp only [List.length_nil, g2] at hchk
            have HCHK := Lib.hid hchk
            clear hchk
            go_wp2_with fail
            refine HCHK.out.mono ?_
            rintro e w6 ⟨rfl, hm6⟩
            have hP6 := (hm6.block P pb id).trans HP.out
            have hD6 := (hm6.block W.heap.size db id).trans HN.out.res
            have HO6 := Lib.hid (HO.out.mod hm6)
            have HM6 := Lib.hid (HN.out.mod.trans hm6 (fun _ _ h => h))
            clear hm6 HCHK HEND HP HO p0 p1 p2 p3 pf pb d0 d1 d2 d3 df db
            simp only [List.length_nil, g2] at hP6
            obtain ⟨pb, p0, p1, p2, p3, pf⟩ := Page4.facts hP6
            obtain ⟨db, d0, d1, d2, d3, df⟩ := Page4.facts hD6
            have HD6 := Lib.hid hD6
            clear hP6 hD6
            go_wp2_with fail
            refine at_world6 (P := bodyPost _ _ _ _ _) (fun X => X.heap[W.heap.size]? = some (.cells #[.bool false, .slice ka p.keys.length kc, .slice va 0 vc, .slice ca (p.keys.length + 1) cc] 130 (0, 0)) ∧ Mod (fun k => k = W.heap.size) w6 X) ?_ ?_
            · refine ⟨?_, ?_⟩
              · simp only [heap_setCell, if_true, HD6.out, Option.map_some, setAt_cells, List.setIfInBounds_toArray, List.set_cons_zero, List.set_cons_succ]
              · repeat (first | with_reducible exact Mod.refl _ _ | ((with_reducible refine Mod.setCell ?_ _ _ ?_); rotate_left; (intro _; rfl)))
            · rintro X ⟨hDX, hMX⟩
              obtain ⟨tb, t0, t1, t2, t3, tf⟩ := Page4.facts hDX
              refine bodyPost_ret (v := .tuple #[.agg #[.bool false, .slice ka p.keys.length kc, .slice va 0 vc, .slice ca (p.keys.length + 1) cc], .int .i64 0]) (by simp [results, Tryz.f82, go_sem, t0, t1, t2, t3]) rfl ⟨.slice ka p.keys.length kc, .slice va 0 vc, .slice ca (p.keys.length + 1) cc, ?_, ?_, ?_⟩
              · unfold pageV; rw [HL.out]
              · have h := HO6.out.keep hMX (fun q _ e _ => by subst e; exact ⟨_, _, _, HD6.out, by decide, by decide⟩)
                simp only [List.length_nil, g2] at h
                rw [HKV.out]
                exact h
              · exact HM6.out.trans hMX (fun q hq e => by omega)

theorem Decode_calls (p : Pg) (w : World) (hp : pgOk p) :
    Calls Tryz.prog 82 #[.string ⟨(encP p).toArray⟩] w fun e w' => ∃ kv vv cv, e = .returned (.tuple #[pageV p kv vv cv, .int .i64 0]) ∧ PgOwn w' w.heap.size kv vv cv p.keys p.vals p.kids ∧ Mod NoB w w' := by
  cases hl : p.leaf with
  | true => exact Decode_leaf p w hp hl
  | false => exact Decode_node p w hp hl

end Go.Proofs.YtgofngilfdnakaaGreat
