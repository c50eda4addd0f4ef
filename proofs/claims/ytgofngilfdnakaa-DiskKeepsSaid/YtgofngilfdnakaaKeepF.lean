/-
  This text proves that cupellaw03.both's same answers true where the disk is what the document's says: for few files and changes.
-/
import Derived.Test.YtgofngilfdnakaaKeepE
import Derived.Test.YtgofngilfdnakaaDiskM2
namespace Go.Proofs.Ytgofngilfdnakaa
open Go Go.RowKit
attribute [local go_sem] over_cell over_frozen lt_over le_over noB loudUpon ByteArray.mk_append_mk ByteArray.extract_mk

theorem strs_at : ∀ (G : Files) (k : Nat) (hk : k < G.length), (G.map fun x => Value.string ⟨x.1.toArray⟩)[k]? = some (.string ⟨G[k].1.toArray⟩)
  | G, k, hk => by rw [List.getElem?_map, List.getElem?_eq_getElem hk]; rfl
theorem nameRow_at {w : World} {base : Nat} {v : Value} {G : Files} (h : w.ownsRow base 9 1 v G.length (G.map fun x => .string ⟨x.1.toArray⟩)) : ∃ a c, v = .slice a G.length c ∧ ∀ k, (hk : k < G.length) → ∃ q, a = some ⟨q, 0, none⟩ ∧ q < w.heap.size ∧ w.cell? ⟨q, k, none⟩ = some (.string ⟨G[k].1.toArray⟩) := by
  rcases h.2 with ⟨hv, hn⟩ | ⟨g, cap, cur, hv, _, hg, hnc, hcm, hcs, ht⟩
  · exact ⟨none, 0, by rw [hv, hn], fun k hk => by omega⟩
  · refine ⟨_, cap, hv, fun k hk => ⟨g, rfl, lt_heap hg, ?_⟩⟩
    rw [cell_heap hg, ← strs_at G k hk, ← ht, List.getElem?_take, if_pos (by omega), Array.getElem?_toList]

set_option maxRecDepth 100000 in
set_option maxHeartbeats 6400000 in
theorem same3_calls (p : Nat) (S : Nat → Prop) (d : Dk) (sv lv : Value) (F : Files) (L : List Chg) (ch k : Nat) (w : World) (h : KS w p S d sv lv F L ch k) (hk : k ≤ 100) :
    Calls Try.prog 66 #[bothV p sv lv ch] w fun e w' => e = .returned (.bool true) ∧ Mod NoB w w' := by
  have hbl := h.bb.len
  have hbz := h.bb.size
  have hab := acts_bounds (F := F) h.rel.ok
  rw [← h.rel.now] at hab
  letI : Away := ⟨S⟩
  have hfr : FR w sv F := h.fr
  have hcr : CR w lv L := h.cr
  have HNOW := Lib.hid (fun X (hX : Mod NoB w X) => rnow_calls sv lv (.slice none 0 0) F L (-1) ch false X (hfr.mod hX) (hcr.mod hX) h.rel.sorted h.rel.ok (by omega) (by omega) ⟨_, _, _, rfl⟩)
  rw [← h.rel.now] at HNOW
  have hD : ∀ X, Mod NoB w X → Disk X p S d := fun X hX => h.disk.mod hX (fun (k : Nat) _ => (id : ¬ NoB k))
  have HNM := Lib.hid (fun X hX => Names_calls p S d X (hD X hX) h.rel.nowS (by omega))
  have HUS := Lib.hid (fun X hX => Used_calls p S d X (hD X hX) (by omega))
  have HDE : Hid (∀ X, Mod NoB w X → Calls Try.prog 45 #[.pointer (some ⟨p, 0, none⟩)] X fun e w' => e = .returned (.bool false) ∧ Mod NoB X w') := fun X hX => (Dead_calls p S d X (hD X hX)).mono (fun e w' ⟨h1, h2⟩ => ⟨by rw [h1, h.rel.up], h2 ▸ Mod.refl _ _⟩)
  have HCH : Hid (∀ X, Mod NoB w X → Calls Try.prog 35 #[.pointer (some ⟨p, 0, none⟩)] X fun e w' => e = .returned (.int .i64 ch) ∧ Mod NoB X w') := fun X hX => (Changes_calls p S d X (hD X hX)).mono (fun e w' ⟨h1, h2⟩ => ⟨by rw [h1, h.rel.changes], h2 ▸ Mod.refl _ _⟩)
  have HLO : Hid (∀ X, Mod NoB w X → Calls Try.prog 71 #[.pointer (some ⟨p, 0, none⟩)] X fun e w' => e = .returned (.int .i64 L.length) ∧ Mod NoB X w') := fun X hX => (Loose_calls p S d X (hD X hX)).mono (fun e w' ⟨h1, h2⟩ => ⟨by rw [h1, h.rel.loose, List.length_map], h2 ▸ Mod.refl _ _⟩)
  have HRD : Hid (∀ X j, Mod NoB w X → (hj : j < d.now.length) → Calls Try.prog 27 #[.pointer (some ⟨p, 0, none⟩), .string ⟨d.now[j].1.toArray⟩] X fun e w' => e = .returned (.tuple #[.string ⟨d.now[j].2.toArray⟩, .int .i64 0]) ∧ Mod NoB X w') := fun X j hX hj => by
    have hm := List.getElem_mem hj
    have hr := Read_calls p S d d.now[j].1 X (hD X hX) (by have := nameOk_len (h.rel.nowN _ hm); omega)
    rw [h.rel.read _ hm] at hr
    exact hr
  have HSZ : Hid (∀ X v, FR X v d.now → Calls Try.prog 113 #[v] X fun e w' => e = .returned (.int .i64 d.now.size) ∧ Mod NoB X w') := fun X v hv => (rsize_calls v d.now X hv (by omega) (by omega)).mono (fun e w' ⟨h1, h2⟩ => ⟨h1, h2 ▸ Mod.refl _ _⟩)
  have hn : d.now.length ≤ 200 := by omega
  obtain ⟨x1, z1, rfl, -, -⟩ := hfr.cells
  obtain ⟨x2, z2, rfl, -, -⟩ := hcr.cells
  clear h hbl hbz hab hfr hcr hD
  generalize d.now = G at *
  obtain ⟨W, hW⟩ : ∃ W, w.alloc (.cells #[.pointer (some ⟨p, 0, none⟩), .slice x1 F.length z1, .slice x2 L.length z2, .int .i64 (-1), .slice none 0 0, .int .i64 ch, .bool false] 101) = W := ⟨_, rfl⟩
  have hm0 : Mod NoB w W := by rw [← hW]; exact (Mod.refl _ _).alloc _
  have hP : W.heap[w.heap.size]? = some (.cells #[.pointer (some ⟨p, 0, none⟩), .slice x1 F.length z1, .slice x2 L.length z2, .int .i64 (-1), .slice none 0 0, .int .i64 ch, .bool false] 101 (0, 0)) := by
    rw [← hW]
    exact heap_alloc_new _ _
  obtain ⟨db, d0, d1, d2, d3, d4, d5, d6, df⟩ := Both7.facts hP
  have HM0 := Lib.hid hm0
  have HP := Lib.hid hP
  clear hm0 hP
  go_enter Try.func66, Try.ntmps66
  go_wp2_with fail
  clear hW
  refine (HNOW.out _ HM0.out).mono ?_
  rintro e W1 ⟨v1, rfl, hf1, hm1⟩
  have HM1 := Lib.hid (HM0.out.trans hm1 (fun _ _ h => h))
  have hP1 := (hm1.block _ db id).trans HP.out
  have HF1 := Lib.hid hf1
  obtain ⟨a1, c1, rfl, -, hc1⟩ := hf1.cells
  clear d0 d1 d2 d3 d4 d5 d6 df db HP hf1 hm1 HM0 hc1
  obtain ⟨db, d0, d1, d2, d3, d4, d5, d6, df⟩ := Both7.facts hP1
  have HP1 := Lib.hid hP1
  clear hP1
  go_wp2_with fail
  refine (HNM.out _ HM1.out).mono ?_
  rintro e W2 ⟨v2, rfl, hn2, hm2⟩
  have HM2 := Lib.hid (HM1.out.trans hm2 (fun _ _ h => h))
  have hP2 := (hm2.block _ db id).trans HP1.out
  have HF2 := Lib.hid (HF1.out.mod hm2)
  obtain ⟨a9, c9, e9, -, hc2⟩ := HF2.out.cells
  cases e9
  obtain ⟨a2, c2, rfl, hn2c⟩ := nameRow_at hn2
  have HNC := Lib.hid hn2c
  have HFC := Lib.hid hc2
  clear d0 d1 d2 d3 d4 d5 d6 df db HP1 hn2 hm2 HM1 HF1 hn2c hc2
  obtain ⟨db, d0, d1, d2, d3, d4, d5, d6, df⟩ := Both7.facts hP2
  have HP2 := Lib.hid hP2
  clear hP2
  go_wp2_with fail
  refine wp_region_quiet_all (fun w' => ∃ x, w' = over _ (NoB) x) (by kernel_rfl) (by kernel_rfl) (Cls.drew _ _) ?_
  repeat (go_big_quiet_step ((first | (go_at_call 31; exact Calls.cls (fun _ _ h => h) (HUS.out _ (HM2.out.trans (over_mod _ _ _) (fun _ _ h => h)))) | (go_at_call 113; exact Calls.cls (fun _ _ h => h) (HSZ.out _ _ (HF2.out.mod (over_mod _ _ _)))) | (go_at_call 45; exact Calls.cls (fun _ _ h => h) (HDE.out _ (HM2.out.trans (over_mod _ _ _) (fun _ _ h => h)))) | (go_at_call 35; exact Calls.cls (fun _ _ h => h) (HCH.out _ (HM2.out.trans (over_mod _ _ _) (fun _ _ h => h)))) | (go_at_call 71; exact Calls.cls (fun _ _ h => h) (HLO.out _ (HM2.out.trans (over_mod _ _ _) (fun _ _ h => h)))))))
  refine wpQuiet_nil ?_
  rintro _ ⟨y, rfl⟩
  have HM3 := Lib.hid (HM2.out.trans (over_mod W2 NoB y) (fun _ _ h => h))
  have hP3 := ((over_mod W2 NoB y).block _ db id).trans HP2.out
  have HN3 : Hid (∀ k, (hk : k < G.length) → ∃ q, a2 = some ⟨q, 0, none⟩ ∧ q < W2.heap.size ∧ W2.cell? ⟨q, k, none⟩ = some (.string ⟨G[k].1.toArray⟩)) := HNC.out
  have hW3 := (over_mod W2 NoB y).size
  have HOV := Lib.hid (over_mod W2 NoB y)
  clear HNOW HNM HUS HDE HCH HLO HSZ HM2 HF2 HP2 HNC d0 d1 d2 d3 d4 d5 d6 df
  generalize over W2 NoB y = W3 at *
  go_wp2_with fail
  go_loopw [5, 6, 7] (fun i _ _ wr => ∃ k : Nat, k ≤ G.length ∧ i = .int .i64 k ∧ Hid (Mod NoB W3 wr)) (fun i _ _ _ => G.length - (intOf i).toNat)
  case atStart => exact ⟨0, by omega, rfl, Lib.hid (Mod.refl _ _)⟩
  case round =>
    obtain ⟨k, hk, rfl, HR⟩ := hrel
    have HMR := Lib.hid (HM3.out.trans HR.out (fun _ _ h => h))
    have hPr := (HR.out.block _ (Nat.lt_of_lt_of_le db hW3) id).trans hP3
    have HWR := Lib.hid (HOV.out.trans HR.out (fun _ _ h => h))
    obtain ⟨rb, r0, r1, r2, r3, r4, r5, r6, rf⟩ := Both7.facts hPr
    clear hPr
    by_cases hlt : k < G.length
    · obtain ⟨q, rfl, hq, f1, f2⟩ := HFC.out k hlt
      obtain ⟨q2, rfl, hq2, n1⟩ := HN3.out k hlt
      rw [← World.cell?_of_block (w := W2) (HWR.out.block q hq id)] at f1 f2
      rw [← World.cell?_of_block (w := W2) (HWR.out.block q2 hq2 id)] at n1
      have HRK := Lib.hid (fun X hX => HRD.out X k hX hlt)
      clear HFC HN3 HRD
      generalize G[k] = x at *
      obtain ⟨nm, st⟩ := x
      simp only at f1 f2 n1 HRK
      have hqr := Nat.lt_of_lt_of_le hq HWR.out.size
      have hqr2 := Nat.lt_of_lt_of_le hq2 HWR.out.size
      go_wp2_with fail
      refine wp_region_quiet_all (fun w' => ∃ x, w' = over _ (NoB) x) (by kernel_rfl) (by kernel_rfl) (Cls.drew _ _) ?_
      repeat (go_big_quiet_step ((go_at_call 27; exact Calls.cls (fun _ _ h => h) (HRK.out _ (HMR.out.trans (over_mod _ _ _) (fun _ _ h => h))))))
      refine wpQuiet_nil ?_
      rintro _ ⟨y2, rfl⟩
      go_wp2_with fail
      refine wp_region_quiet_all (fun w' => ∃ x, w' = over _ (NoB) x) (by kernel_rfl) (by kernel_rfl) (Cls.drew _ _) ?_
      repeat (go_big_quiet_step (fail))
      refine wpQuiet_nil ?_
      rintro _ ⟨y3, rfl⟩
      go_wp2_with fail
      have HNX : Hid (Mod NoB W3 (over (over wr NoB y2) NoB y3)) := (HR.out.trans (over_mod _ _ _) (fun _ _ h => h)).trans (over_mod _ _ _) (fun _ _ h => h)
      go_roundw
      case rel => exact ⟨k + 1, by omega, by go_num, HNX⟩
      case measure => simp [intOf]; omega
    · go_wp2_with fail
      go_ret
      exact ⟨rfl, HMR.out⟩

end Go.Proofs.Ytgofngilfdnakaa
