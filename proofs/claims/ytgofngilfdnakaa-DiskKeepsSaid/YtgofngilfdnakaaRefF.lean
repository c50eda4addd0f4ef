/-
  This text proves what cupelref03's Do computes: for few files, whose bytes are few.
-/
import Derived.Test.YtgofngilfdnakaaRefE
namespace Go.Proofs.Ytgofngilfdnakaa
open Go Go.RowKit
attribute [local go_sem] over_cell over_frozen lt_over le_over noB loudUpon ByteArray.mk_append_mk ByteArray.extract_mk

theorem Chg5.facts {w : World} {D : Nat} {x0 x1 x2 x3 x4 : Value} {T : TypeId} (h : w.heap[D]? = some (.cells #[x0, x1, x2, x3, x4] T (0, 0))) : D < w.heap.size ∧ w.cell? ⟨D, 0, none⟩ = some x0 ∧ w.cell? ⟨D, 1, none⟩ = some x1 ∧ w.cell? ⟨D, 2, none⟩ = some x2 ∧ w.cell? ⟨D, 3, none⟩ = some x3 ∧
    w.cell? ⟨D, 4, none⟩ = some x4 ∧ ∀ i, w.frozen? ⟨D, i, none⟩ = false :=
  ⟨lt_heap h, (cell_heap h 0).trans rfl, (cell_heap h 1).trans rfl, (cell_heap h 2).trans rfl, (cell_heap h 3).trans rfl, (cell_heap h 4).trans rfl, frozen_heap h⟩
theorem at_le {F : Files} {i : Nat} (hi : i < F.length) : F[i].2.length ≤ F.size := by
  have h1 := size_take F hi
  have h2 := size_take_le F (i + 1)
  omega
def DoPost [Away] (w : World) (G : Files) (e : Ending) (w' : World) : Prop := ∃ v', e = .returned v' ∧ FR w' v' G ∧ Mod NoB w w'

set_option maxRecDepth 100000 in
set_option maxHeartbeats 3200000 in
theorem rdo_calls [Away] (v : Value) (F : Files) (kd : Nat) (name tt s : Str) (n : Int) (w : World) (h : FR w v F) (hn : F.length ≤ 1000) (hsz : F.size ≤ 1000000000) (hs : s.length ≤ 1000000000) (hk : kd ≤ 4) (hn0 : kd = 4 → 0 ≤ n) :
    Calls Try.prog 112 #[v, .agg #[.int .i64 kd, .string ⟨name.toArray⟩, .string ⟨tt.toArray⟩, .string ⟨s.toArray⟩, .int .i64 n]] w (DoPost w (rDo F ⟨kd, name, tt, s, n⟩)) := by
  have hm0 : Mod NoB w (w.alloc (.cells #[.int .i64 kd, .string ⟨name.toArray⟩, .string ⟨tt.toArray⟩, .string ⟨s.toArray⟩, .int .i64 n] 178)) := (Mod.refl _ _).alloc _
  have HFI := Lib.hid (rfind_calls v F name _ (h.mod hm0) hn)
  obtain ⟨D, hD⟩ : ∃ D, w.heap.size = D := ⟨_, rfl⟩
  have hbox := heap_alloc_new w (.cells #[.int .i64 kd, .string ⟨name.toArray⟩, .string ⟨tt.toArray⟩, .string ⟨s.toArray⟩, .int .i64 n] 178)
  rw [hD] at hbox
  have hlt : rIs F name = true → rFind F name < F.length := rIs_lt
  have hle := rFind_le F name
  have HD := Lib.hid hD
  have HBOX := Lib.hid hbox
  have HM0 := Lib.hid hm0
  have HH := Lib.hid h
  have HX : Hid (∀ W, Mod NoB (w.alloc (.cells #[.int .i64 kd, .string ⟨name.toArray⟩, .string ⟨tt.toArray⟩, .string ⟨s.toArray⟩, .int .i64 n] 178)) W → W.heap[D]? = some (.cells #[.int .i64 kd, .string ⟨name.toArray⟩, .string ⟨tt.toArray⟩, .string ⟨s.toArray⟩, .int .i64 n] 178 (0, 0)) ∧ Mod NoB w W ∧ FR W v F) := fun W hW =>
    ⟨(hW.block D (lt_heap hbox) id).trans hbox, hm0.trans hW (fun _ _ h => h), h.mod (hm0.trans hW (fun _ _ h => h))⟩
  have HPUT : Hid (∀ W k t, Mod NoB w W → Calls Try.prog 147 #[v, .string ⟨k.toArray⟩, .string ⟨t.toArray⟩] W fun e w' => ∃ v', e = .returned v' ∧ FR w' v' (rPut F k t) ∧ Mod NoB W w') := fun W k t hW => rput_calls v F k t W (h.mod hW) hn
  have HDROP : Hid (∀ W k, Mod NoB w W → Calls Try.prog 148 #[v, .string ⟨k.toArray⟩] W fun e w' => ∃ v', e = .returned v' ∧ FR w' v' (rDrop F k) ∧ Mod NoB W w') := fun W k hW => rdrop_calls v F k W (h.mod hW) hn
  clear hm0 hbox hD
  cases hi : rIs F name with
  | false =>
    rw [hi] at HFI
    obtain ⟨a, c, rfl, _, _⟩ := h.cells
    clear hlt h
    by_cases h2 : kd < 2
    · have hd : rDo F ⟨kd, name, tt, s, n⟩ = rPut F name s := by
        unfold rDo
        rw [if_neg (by simp [hi]), if_pos h2]
      rw [hd]
      clear hd hi hle hn0
      generalize rFind F name = i at *
      have h2' : (kd : Int) < 2 := by omega
      by_cases h0 : kd = 0
      all_goals
        first | (obtain rfl := h0) | (obtain rfl : kd = 1 := by omega)
        go_enter Try.func112, Try.ntmps112
        go_wp2_with fail
        refine HFI.out.mono ?_
        rintro e W ⟨rfl, hm⟩
        obtain ⟨hb, hmw, _⟩ := HX.out W hm
        rw [HD.out]
        obtain ⟨db, d0, d1, d2, d3, d4, df⟩ := Chg5.facts hb
        have HP := Lib.hid (HPUT.out W name s hmw)
        have HMW := Lib.hid hmw
        clear hb hmw hm HX HBOX HM0 HFI HPUT HDROP
        go_wp2_with fail
        refine HP.out.mono ?_
        rintro e W2 ⟨v', rfl, hf, hm2⟩
        have HR : Hid (FR W2 v' (rPut F name s) ∧ Mod NoB w W2) := ⟨hf, HMW.out.trans hm2 (fun _ _ h => h)⟩
        clear hf hm2 d0 d1 d2 d3 d4 df db HP
        go_wp2_with fail
        go_ret
        exact ⟨_, rfl, HR.out⟩
    · have hd : rDo F ⟨kd, name, tt, s, n⟩ = F := by
        unfold rDo
        rw [if_neg (by simp [hi]), if_neg h2, if_pos hi]
      rw [hd]
      clear hd hi hle hn0
      generalize rFind F name = i at *
      have k0 : ((kd : Int) == 0) = false := by simp; omega
      have h2' : ¬ (kd : Int) < 2 := by omega
      go_enter Try.func112, Try.ntmps112
      go_wp2_with fail
      refine HFI.out.mono ?_
      rintro e W ⟨rfl, hm⟩
      obtain ⟨hb, hmw, hfw⟩ := HX.out W hm
      rw [HD.out]
      obtain ⟨db, d0, d1, d2, d3, d4, df⟩ := Chg5.facts hb
      have HR : Hid (FR W (.slice a F.length c) F ∧ Mod NoB w W) := ⟨hfw, hmw⟩
      clear hb hmw hm hfw HX HBOX HM0 HFI HPUT HDROP
      go_wp2_with fail
      go_ret
      exact ⟨_, rfl, HR.out⟩
  | true =>
    rw [hi] at HFI
    have hil := hlt hi
    obtain ⟨a, c, rfl, hc, hcell⟩ := h.cells
    obtain ⟨q, rfl, hq, _, hc2⟩ := hcell _ hil
    have hat : rAt F name = F[rFind F name].2 := by unfold rAt; rw [List.getElem?_eq_getElem hil]; rfl
    have hatl := at_le hil
    rw [← hat] at hc2 hatl
    clear hlt h hcell
    have HC2 : Hid (∀ W, Mod NoB w W → W.cell? ⟨q, rFind F name * 2 + 1, none⟩ = some (.string ⟨(rAt F name).toArray⟩) ∧ q < W.heap.size) := fun W hW => ⟨(World.cell?_of_block (w := w) (hW.block q hq id)).trans hc2, Nat.lt_of_lt_of_le hq hW.size⟩
    clear hc2 hat
    by_cases h0 : kd = 0
    · subst h0
      have hd : rDo F ⟨0, name, tt, s, n⟩ = rPut F name (rAt F name ++ s) := by
        unfold rDo
        rw [if_pos ⟨rfl, hi⟩]
      rw [hd]
      clear hd hi
      generalize rFind F name = i at *
      generalize rAt F name = x at *
      go_enter Try.func112, Try.ntmps112
      go_wp2_with fail
      refine HFI.out.mono ?_
      rintro e W ⟨rfl, hm⟩
      obtain ⟨hb, hmw, hfw⟩ := HX.out W hm
      obtain ⟨g1, g2⟩ := HC2.out W hmw
      rw [HD.out]
      obtain ⟨db, d0, d1, d2, d3, d4, df⟩ := Chg5.facts hb
      have HMW := Lib.hid hmw
      clear hb hmw hm hfw HX HBOX HM0 HFI HDROP hq HC2
      go_upto_region 3 with fail
      go_region_with (go_at_call 147; refine (HPUT.out _ _ _ ?_).mono ?_; exact HMW.out.trans (by (repeat (first | with_reducible exact Mod.refl _ _ | with_reducible refine Mod.drew ?_ | with_reducible refine Mod.alloc ?_ _))) (fun _ _ h => h); rintro e W2 ⟨v', rfl, hf, hm2⟩)
      all_goals
        have HR : Hid (FR W2 v' (rPut F name (x ++ s)) ∧ Mod NoB w W2) := ⟨hf, (HMW.out.trans (by (repeat (first | with_reducible exact Mod.refl _ _ | with_reducible refine Mod.drew ?_ | with_reducible refine Mod.alloc ?_ _))) (fun _ _ h => h)).trans hm2 (fun _ _ h => h)⟩
        clear hf hm2
        go_wp2_with fail
        go_ret
        exact ⟨_, rfl, HR.out⟩
    · have k0 : ((kd : Int) == 0) = false := by simp; omega
      by_cases h1 : kd = 1
      · subst h1
        have hd : rDo F ⟨1, name, tt, s, n⟩ = rPut F name s := by
          unfold rDo
          rw [if_neg (by simp), if_pos (by show (1 : Nat) < 2; omega)]
        rw [hd]
        clear hd hi
        generalize rFind F name = i at *
        generalize rAt F name = x at *
        go_enter Try.func112, Try.ntmps112
        go_wp2_with fail
        refine HFI.out.mono ?_
        rintro e W ⟨rfl, hm⟩
        obtain ⟨hb, hmw, hfw⟩ := HX.out W hm
        rw [HD.out]
        obtain ⟨db, d0, d1, d2, d3, d4, df⟩ := Chg5.facts hb
        have HP := Lib.hid (HPUT.out W name s hmw)
        have HMW := Lib.hid hmw
        clear hb hmw hm hfw HX HBOX HM0 HFI HPUT HDROP hq HC2
        go_wp2_with fail
        refine HP.out.mono ?_
        rintro e W2 ⟨v', rfl, hf, hm2⟩
        have HR : Hid (FR W2 v' (rPut F name s) ∧ Mod NoB w W2) := ⟨hf, HMW.out.trans hm2 (fun _ _ h => h)⟩
        clear hf hm2 d0 d1 d2 d3 d4 df db HP
        go_wp2_with fail
        go_ret
        exact ⟨_, rfl, HR.out⟩
      · by_cases h2 : kd = 2
        · subst h2
          have hd : rDo F ⟨2, name, tt, s, n⟩ = rPut (rDrop F name) tt (rAt F name) := by
            unfold rDo
            rw [if_neg (by simp), if_neg (by show ¬ (2 : Nat) < 2; omega), if_neg (by simp [hi]), if_pos rfl]
          rw [hd]
          have hdl : (rDrop F name).length ≤ 1000 := by
            unfold rDrop
            rw [if_pos hi, List.length_append, List.length_take, List.length_drop]
            omega
          have HPU2 : Hid (∀ W u t, FR W u (rDrop F name) → Calls Try.prog 147 #[u, .string ⟨tt.toArray⟩, .string ⟨t.toArray⟩] W fun e w' => ∃ v', e = .returned v' ∧ FR w' v' (rPut (rDrop F name) tt t) ∧ Mod NoB W w') := fun W u t hu => rput_calls u _ tt t W hu hdl
          clear hd hi hdl HPUT
          generalize rFind F name = i at *
          generalize rAt F name = x at *
          go_enter Try.func112, Try.ntmps112
          go_wp2_with fail
          refine HFI.out.mono ?_
          rintro e W ⟨rfl, hm⟩
          obtain ⟨hb, hmw, hfw⟩ := HX.out W hm
          obtain ⟨g1, g2⟩ := HC2.out W hmw
          rw [HD.out]
          obtain ⟨db, d0, d1, d2, d3, d4, df⟩ := Chg5.facts hb
          have HMW := Lib.hid hmw
          have HB := Lib.hid hb
          clear hb hmw hm hfw HX HBOX HM0 HFI hq
          go_upto_region 9 with fail
          go_region_with (first
            | (go_at_call 148; refine (HDROP.out _ _ ?_).mono ?_; exact HMW.out.trans (by (repeat (first | with_reducible exact Mod.refl _ _ | with_reducible refine Mod.drew ?_ | with_reducible refine Mod.alloc ?_ _))) (fun _ _ h => h); rintro e W2 ⟨v2, rfl, hf2, hm2⟩; have hmW2 : Mod NoB W W2 := Mod.trans (by (repeat (first | with_reducible exact Mod.refl _ _ | with_reducible refine Mod.drew ?_ | with_reducible refine Mod.alloc ?_ _))) hm2 (fun _ _ h => h); have hwW2 := HMW.out.trans hmW2 (fun _ _ h => h); obtain ⟨y1, y2⟩ := HC2.out W2 hwW2; obtain ⟨zb, z0, z1, z2, z3, z4, zf⟩ := Chg5.facts ((hmW2.block D db id).trans HB.out))
            | (go_at_call 147; refine (HPU2.out _ _ _ ?_).mono ?_; exact hf2.mod (by (repeat (first | with_reducible exact Mod.refl _ _ | with_reducible refine Mod.drew ?_ | with_reducible refine Mod.alloc ?_ _))); rintro e W3 ⟨v', rfl, hf, hm3⟩))
          all_goals
            have HR : Hid (FR W3 v' (rPut (rDrop F name) tt x) ∧ Mod NoB w W3) := ⟨hf, hwW2.trans (Mod.trans (by (repeat (first | with_reducible exact Mod.refl _ _ | with_reducible refine Mod.drew ?_ | with_reducible refine Mod.alloc ?_ _))) hm3 (fun _ _ h => h)) (fun _ _ h => h)⟩
            clear hf hm2 hm3 hmW2 hwW2 hf2
            go_wp2_with fail
            go_ret
            exact ⟨_, rfl, HR.out⟩
        · have k2 : ((kd : Int) == 2) = false := by simp; omega
          have h2' : ¬ (kd : Int) < 2 := by omega
          by_cases h3 : kd = 3
          · subst h3
            have hd : rDo F ⟨3, name, tt, s, n⟩ = rDrop F name := by
              unfold rDo
              rw [if_neg (by simp), if_neg (by show ¬ (3 : Nat) < 2; omega), if_neg (by simp [hi]), if_neg (by simp), if_pos rfl]
            rw [hd]
            clear hd hi
            generalize rFind F name = i at *
            generalize rAt F name = x at *
            go_enter Try.func112, Try.ntmps112
            go_wp2_with fail
            refine HFI.out.mono ?_
            rintro e W ⟨rfl, hm⟩
            obtain ⟨hb, hmw, hfw⟩ := HX.out W hm
            rw [HD.out]
            obtain ⟨db, d0, d1, d2, d3, d4, df⟩ := Chg5.facts hb
            have HP := Lib.hid (HDROP.out W name hmw)
            have HMW := Lib.hid hmw
            clear hb hmw hm hfw HX HBOX HM0 HFI HPUT HDROP hq HC2
            go_wp2_with fail
            refine HP.out.mono ?_
            rintro e W2 ⟨v', rfl, hf, hm2⟩
            have HR : Hid (FR W2 v' (rDrop F name) ∧ Mod NoB w W2) := ⟨hf, HMW.out.trans hm2 (fun _ _ h => h)⟩
            clear hf hm2 d0 d1 d2 d3 d4 df db HP
            go_wp2_with fail
            go_ret
            exact ⟨_, rfl, HR.out⟩
          · obtain rfl : kd = 4 := by omega
            have hnn := hn0 rfl
            obtain ⟨m, rfl⟩ := Int.eq_ofNat_of_zero_le hnn
            have hd : rDo F ⟨4, name, tt, s, (m : Int)⟩ = if (m : Int) < (rAt F name).length then rPut F name ((rAt F name).take m) else F := by
              unfold rDo
              rw [if_neg (by simp), if_neg (by show ¬ (4 : Nat) < 2; omega), if_neg (by simp [hi]), if_neg (by simp), if_neg (by simp)]
              simp
            rw [hd]
            clear hd hi
            generalize rFind F name = i at *
            generalize rAt F name = x at *
            by_cases hml : m < x.length
            · rw [if_pos (by omega)]
              have hml' : (m : Int) < (x.length : Int) := by omega
              have hml2 : m ≤ x.length := by omega
              go_enter Try.func112, Try.ntmps112
              go_wp2_with fail
              refine HFI.out.mono ?_
              rintro e W ⟨rfl, hm⟩
              obtain ⟨hb, hmw, hfw⟩ := HX.out W hm
              obtain ⟨g1, g2⟩ := HC2.out W hmw
              rw [HD.out]
              obtain ⟨db, d0, d1, d2, d3, d4, df⟩ := Chg5.facts hb
              have HMW := Lib.hid hmw
              clear hb hmw hm hfw HX HBOX HM0 HFI HDROP hq HC2
              go_upto_region 12 with fail
              refine wp_region_quiet_all (fun w' => ∃ x, w' = over _ (NoB) x) (by kernel_rfl) (by kernel_rfl) (Cls.drew _ _) ?_
              repeat (go_big_quiet_step (fail))
              refine wpQuiet_nil ?_
              rintro _ ⟨y, rfl⟩
              have HMY : Hid (Mod NoB w (over W NoB y)) := HMW.out.trans (over_mod _ _ _) (fun _ _ h => h)
              go_upto_region 13 with fail
              go_region_with (go_at_call 147; refine (HPUT.out _ _ _ ?_).mono ?_; exact HMY.out.trans (by (repeat (first | with_reducible exact Mod.refl _ _ | with_reducible refine Mod.drew ?_ | with_reducible refine Mod.alloc ?_ _))) (fun _ _ h => h); rintro e W2 ⟨v', rfl, hf, hm2⟩)
              all_goals
                have HR : Hid (FR W2 v' (rPut F name (x.take m)) ∧ Mod NoB w W2) := ⟨hf, (HMY.out.trans (by (repeat (first | with_reducible exact Mod.refl _ _ | with_reducible refine Mod.drew ?_ | with_reducible refine Mod.alloc ?_ _))) (fun _ _ h => h)).trans hm2 (fun _ _ h => h)⟩
                clear hf hm2
                go_wp2_with fail
                go_ret
                exact ⟨_, rfl, HR.out⟩
            · rw [if_neg (by omega)]
              have hml' : ¬ (m : Int) < (x.length : Int) := by omega
              have hml3 : (x.length : Int) ≤ (m : Int) := by omega
              go_enter Try.func112, Try.ntmps112
              go_wp2_with fail
              refine HFI.out.mono ?_
              rintro e W ⟨rfl, hm⟩
              obtain ⟨hb, hmw, hfw⟩ := HX.out W hm
              obtain ⟨g1, g2⟩ := HC2.out W hmw
              rw [HD.out]
              obtain ⟨db, d0, d1, d2, d3, d4, df⟩ := Chg5.facts hb
              have HMW := Lib.hid hmw
              clear hb hmw hm hfw HX HBOX HM0 HFI HDROP hq HC2
              go_upto_region 12 with fail
              refine wp_region_quiet_all (fun w' => ∃ x, w' = over _ (NoB) x) (by kernel_rfl) (by kernel_rfl) (Cls.drew _ _) ?_
              repeat (go_big_quiet_step (fail))
              refine wpQuiet_nil ?_
              rintro _ ⟨y, rfl⟩
              have HR : Hid (FR (over W NoB y) (.slice (some ⟨q, 0, none⟩) F.length c) F ∧ Mod NoB w (over W NoB y)) := ⟨HH.out.mod (HMW.out.trans (over_mod _ _ _) (fun _ _ h => h)), HMW.out.trans (over_mod _ _ _) (fun _ _ h => h)⟩
              go_wp2_with fail
              go_ret
              exact ⟨_, rfl, HR.out⟩

end Go.Proofs.Ytgofngilfdnakaa
