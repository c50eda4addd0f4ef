/-
  This text proves what the helper same of the package cupellaw04 answers where a log has what the model has: under bounds on lengths.
-/
import Derived.Test.YtgofngilfdnakaaLaw4b
import Derived.Test.YtgofngilfdnakaaWal2
import Derived.Test.YtgofngilfdnakaaLawP
namespace Go.Proofs.Ytgofngilfdnakaa
open Go Go.RowKit
attribute [local go_sem] over_cell over_frozen lt_over le_over noB loudUpon ByteArray.mk_append_mk ByteArray.extract_mk drop_full

def Md.vals (m : Md) (v1 v2 : Value) : Array Value := #[v1, v2, .int .i64 m.long, .int .i64 m.more, .string ⟨m.root.toArray⟩, .int .i64 m.marks]
/-- What lies in a row of records. -/
theorem RecsAt.cells {w : World} {base : Nat} {a : Option Addr} {n c : Nat} {l : List (Int × Str)} (h : RecsAt w base (.slice a n c) l) : n = l.length ∧ n ≤ c ∧ ∀ k, (hk : k < l.length) → ∃ q, a = some ⟨q, 0, none⟩ ∧ q < w.heap.size ∧
    w.cell? ⟨q, k * 2, none⟩ = some (.int .i64 l[k].1) ∧ w.cell? ⟨q, k * 2 + 1, none⟩ = some (.string ⟨l[k].2.toArray⟩) := by
  rcases h.2 with ⟨hv, hn⟩ | ⟨g, cap, cur, hv, _, hg, hnc, hcm, hcs, ht⟩
  · cases hv
    exact ⟨hn.symm, by omega, fun k hk => by omega⟩
  · cases hv
    refine ⟨rfl, hnc, fun k hk => ⟨g, rfl, lt_heap hg, ?_⟩⟩
    have key : ∀ j, j < l.length * 2 → cur[j]? = (recCells l)[j]? := fun j hj => by
      rw [← ht, List.getElem?_take, if_pos hj, Array.getElem?_toList]
    have hrec : ∀ (l : List (Int × Str)) (k : Nat) (hk : k < l.length), (recCells l)[k * 2]? = some (.int .i64 l[k].1) ∧ (recCells l)[k * 2 + 1]? = some (.string ⟨l[k].2.toArray⟩) := by
      intro l
      induction l with
      | nil => intro k hk; simp at hk
      | cons r l ih =>
        intro k hk
        cases k with
        | zero => exact ⟨rfl, rfl⟩
        | succ k =>
          have := ih k (by simpa using hk)
          rw [show (k + 1) * 2 = k * 2 + 1 + 1 by omega]
          exact this
    have h2 := hrec l k hk
    rw [cell_heap hg, cell_heap hg, key _ (by omega), key _ (by omega)]
    exact h2

set_option maxRecDepth 100000 in
set_option maxHeartbeats 3200000 in
theorem same_calls (l p b1 b2 : Nat) (g : Lg) (v1 v2 : Value) (m : Md) (w : World) (hl : LogAt w l p g) (h1 : RecsAt w b1 v1 m.sure) (h2 : RecsAt w b2 v2 m.wait) (hn : m.sure.length + m.wait.length ≤ 1000000) (hg : Agree g m) (hs : m.long ≤ 1000000000000) (hm : m.more ≤ 1000000000000) (hk : m.marks ≤ 1000000000000) :
    Calls Try.prog 26 #[.pointer (some ⟨l, 0, none⟩), .agg (m.vals v1 v2)] w fun e w' => e = .returned (.bool true) ∧ Mod NoB w w' := by
  obtain ⟨a1, n1, c1, rfl⟩ := h1.shape
  obtain ⟨a2, n2, c2, rfl⟩ := h2.shape
  obtain ⟨hrecs, hmk, hrt, hno, hlo, hmo⟩ := hg
  obtain ⟨sure, wait, long, more, root, marks⟩ := m
  simp only at h1 h2 hn hrecs hmk hrt hno hlo hmo hs hm hk
  simp only [Md.vals]
  obtain ⟨W, hW⟩ : ∃ W, w.alloc (.cells #[.slice a1 n1 c1, .slice a2 n2 c2, .int .i64 long, .int .i64 more, .string ⟨root.toArray⟩, .int .i64 marks] 27) = W := ⟨_, rfl⟩
  have hm0 : Mod NoB w W := by rw [← hW]; exact (Mod.refl _ _).alloc _
  have hws : W.heap.size = w.heap.size + 1 := by rw [← hW, size_alloc]
  have hbx : W.heap[w.heap.size]? = some (.cells #[.slice a1 n1 c1, .slice a2 n2 c2, .int .i64 long, .int .i64 more, .string ⟨root.toArray⟩, .int .i64 marks] 27 (0, 0)) := by
    rw [← hW]; exact heap_alloc_new _ _
  have hm1 : Mod NoB w (W.drew.alloc (.cells #[] 34)) := hm0.drew.alloc _
  have hown : RecsAt (W.drew.alloc (.cells #[] 34)) w.heap.size (.slice (some ⟨W.heap.size, 0, none⟩) 0 0) [] :=
    ⟨rfl, .inr ⟨W.heap.size, 0, #[], rfl, by omega, heap_alloc_new W.drew _, Nat.le_refl _, by rw [maxLen_eq]; omega, rfl, rfl⟩⟩
  obtain ⟨u1, X1, hrun1, ho1, hg1, hk1⟩ := recs_append 25 hown (ownsRow_mod h1 hm1 (fun _ _ => id)) (by simp only [List.length_nil]; omega) (by rw [size_alloc, heap_drew]; omega)
  have hwX1 : Mod NoB W X1 := (((Mod.refl NoB W).drew).alloc (.cells #[] 34)).grown hg1 (fun q hq hlt => by simp only [Value.ownBlock, Option.some.injEq] at hq; omega)
  have hlow1 : ∀ q, u1.ownBlock = some q → W.heap.size ≤ q := fun q hq => by
    rcases hk1 with e | e
    · rw [hq] at e; simp only [Value.ownBlock, Option.some.injEq] at e; omega
    · rw [hq, size_alloc, heap_drew] at e; simp only [Option.some.injEq] at e; omega
  have hmX1 : Mod NoB w X1 := hm0.trans hwX1 (fun _ _ h => h)
  rw [List.nil_append] at ho1
  obtain ⟨u2, X2, hrun2, ho2, hg2, hk2⟩ := recs_append 25 ho1 (ownsRow_mod h2 hmX1 (fun _ _ => id)) (by omega) hmX1.size
  have hwX2 : Mod NoB W X2 := hwX1.grown hg2 (fun q hq hlt => absurd (hlow1 q hq) (by omega))
  obtain ⟨a3, n3, c3, rfl⟩ := ho2.shape
  obtain ⟨a4, n4, c4, rfl⟩ := ho1.shape
  have k0 := cell_heap hbx 0
  have k1 := cell_heap hbx 1
  have x1 := cell_heap ((hwX1.block _ (lt_heap hbx) id).trans hbx) 1
  have bX1 := lt_heap ((hwX1.block _ (lt_heap hbx) id).trans hbx)
  have hbX2 := (hwX2.block _ (lt_heap hbx) id).trans hbx
  have HB2 := Lib.hid hbX2
  have bW := lt_heap hbx
  simp only [List.getElem?_toArray, List.getElem?_cons_zero, List.getElem?_cons_succ] at k0 k1 x1
  obtain ⟨hlen, hcap, hcell⟩ := ho2.cells
  have HCL := Lib.hid hcell
  have hM2 : Mod NoB w X2 := hm0.trans hwX2 (fun _ _ h => h)
  have HM2 := Lib.hid hM2
  have HL2 := Lib.hid (hl.mod hM2 id)
  have HRC := Lib.hid hrecs
  clear h1 h2 hm0 hm1 hown ho1 hg1 hk1 hwX1 hlow1 hmX1 ho2 hg2 hk2 hwX2 hbx hbX2 hcell hM2 hl hrecs
  have hws3 : w.heap.size + 1 ≤ W.heap.size := by omega
  clear hws
  rw [List.length_append] at hlen
  go_enter Try.func26, Try.ntmps26
  go_wp2
  clear hW
  refine wp_region_staged [⟨0, 0, true⟩, ⟨0, 3, false⟩, ⟨0, 1, false⟩, ⟨1, 1, true⟩, ⟨0, 3, false⟩, ⟨0, 2, false⟩, ⟨2, 2, true⟩, ⟨3, 3, false⟩] 3 (clsOf ((fun W : World => [fun w' => ∃ _ : Unit, w' = W.drew, fun w' => ∃ _ : Unit, w' = W.drew.alloc (.cells #[] 34), fun w' => ∃ _ : Unit, w' = X1, fun w' => ∃ _ : Unit, w' = X2]) _)) (by kernel_rfl) (by kernel_rfl) (by first | exact Cls.drew _ _ | exact ⟨(), rfl⟩) ?_
  apply wpSt_loud _ rfl rfl rfl
  · (rintro _ ⟨x, rfl⟩; unfold loudAt; go_simp; first | done | rfl | exact ⟨rfl, rfl⟩ | exact ⟨rfl, ⟨(), rfl⟩⟩)
  simp only [Act.put, List.setIfInBounds_toArray, List.set_cons_succ, List.set_cons_zero]
  refine wpSt_four rfl rfl rfl rfl ⟨_, rfl, by simp⟩ ?_
  go_big_quiet_step (fail)
  refine wpQuiet_nil ?_
  go_big_quiet_step (fail)
  refine wpQuiet_nil ?_
  refine ⟨rfl, ?_⟩
  go_big_quiet_step (fail)
  refine wpQuiet_nil ?_
  refine ⟨rfl, ?_⟩
  go_big_quiet_step (fail)
  refine wpQuiet_nil ?_
  refine ⟨rfl, ?_⟩
  refine wpSt_two rfl rfl ⟨_, rfl, by simp⟩ ?_
  go_big_quiet_step (fail)
  refine wpQuiet_nil ?_
  go_big_quiet_step (fail)
  refine wpQuiet_nil ?_
  refine ⟨rfl, ?_⟩
  apply wpSt_loud _ rfl rfl rfl
  · (rintro _ ⟨x, rfl⟩; exact loudAt_append _ _ _ rfl rfl rfl (by assumption) (by first | exact ⟨(), rfl⟩ | rfl))
  simp only [Act.put, List.setIfInBounds_toArray, List.set_cons_succ, List.set_cons_zero]
  refine wpSt_four rfl rfl rfl rfl ⟨_, rfl, by simp⟩ ?_
  go_big_quiet_step (fail)
  refine wpQuiet_nil ?_
  go_big_quiet_step (fail)
  refine wpQuiet_nil ?_
  refine ⟨rfl, ?_⟩
  go_big_quiet_step (fail)
  refine wpQuiet_nil ?_
  refine ⟨rfl, ?_⟩
  go_big_quiet_step (fail)
  refine wpQuiet_nil ?_
  refine ⟨rfl, ?_⟩
  refine wpSt_three rfl rfl rfl ⟨_, rfl, by simp⟩ ?_
  go_big_quiet_step (fail)
  refine wpQuiet_nil ?_
  go_big_quiet_step (fail)
  refine wpQuiet_nil ?_
  refine ⟨rfl, ?_⟩
  go_big_quiet_step (fail)
  refine wpQuiet_nil ?_
  refine ⟨rfl, ?_⟩
  apply wpSt_loud _ rfl rfl rfl
  · (rintro _ ⟨x, rfl⟩; exact loudAt_append _ _ _ rfl rfl rfl (by assumption) (by first | exact ⟨(), rfl⟩ | rfl))
  simp only [Act.put, List.setIfInBounds_toArray, List.set_cons_succ, List.set_cons_zero]
  refine wpSt_same rfl ?_
  go_big_quiet_step (fail)
  refine wpQuiet_nil ?_
  refine wpSt_nil ?_
  rintro _ ⟨_, hX⟩
  obtain rfl := hX.symm
  go_wp2
  go_loopw [6] (fun i wr => ∃ k : Nat, k ≤ n3 ∧ i = .int .i64 k ∧ Hid (Mod NoB X2 wr)) (fun i _ => n3 - (intOf i).toNat)
  case atStart => exact ⟨0, by omega, rfl, Mod.refl _ _⟩
  case round =>
    obtain ⟨k, hkn, rfl, HM⟩ := hrel
    by_cases hlt : k < n3
    · obtain ⟨q, rfl, hq, e1, e2⟩ := HCL.out k (by rw [List.length_append]; omega)
      have hrd := HRC.out _ (List.getElem_mem (l := sure ++ wait) (by rw [List.length_append]; omega : k < (sure ++ wait).length))
      rw [← World.cell?_of_block (w := X2) (HM.out.block q hq id)] at e1 e2
      have hqr := Nat.lt_of_lt_of_le hq HM.out.size
      generalize (sure ++ wait)[k]'(by rw [List.length_append]; omega) = r at *
      obtain ⟨at_, s⟩ := r
      simp only at e1 e2 hrd
      obtain ⟨hrd, hat0, hat1⟩ := hrd
      have hrc := LRead_calls l p g at_ wr (HL2.out.mod HM.out id) (by omega) (by omega) (by omega) (by omega)
      rw [hrd] at hrc
      have HRD := Lib.hid hrc
      clear hrc hrd
      go_wp2_with fail
      refine HRD.out.mono ?_
      rintro e w' ⟨rfl, hm⟩
      rw [← World.cell?_of_block (w := wr) (hm.block q hqr id)] at e1 e2
      have hqr2 := Nat.lt_of_lt_of_le hqr hm.size
      have HM3 : Hid (Mod NoB X2 w') := HM.out.trans hm (fun _ _ h => h)
      clear hm
      go_wp2_with fail
      go_roundw
      case rel => exact ⟨k + 1, by omega, by go_num, HM3⟩
      case measure => simp [intOf]; omega
    · have hl3 := HL2.out.mod HM.out id
      have hb3 := (HM.out.block _ (lt_heap HB2.out) id).trans HB2.out
      have hln : ∀ y, Calls Try.prog 40 #[.pointer (some ⟨l, 0, none⟩)] (over wr NoB y) fun e w' => e = .returned (.int .i64 long) ∧ Mod NoB (over wr NoB y) w' := fun y => (Len_calls l p g _ (hl3.mod (over_mod _ _ _) id)).mono fun e w' ⟨h, h2⟩ => ⟨by rw [h, hlo], h2 ▸ Mod.refl _ _⟩
      have hwt : ∀ y, Calls Try.prog 44 #[.pointer (some ⟨l, 0, none⟩)] (over wr NoB y) fun e w' => e = .returned (.int .i64 more) ∧ Mod NoB (over wr NoB y) w' := fun y => (Waits_calls l p g _ (hl3.mod (over_mod _ _ _) id)).mono fun e w' ⟨h, h2⟩ => ⟨by rw [h, hmo], h2 ▸ Mod.refl _ _⟩
      have HLN := Lib.hid hln
      have HWT := Lib.hid hwt
      have hrt2 := Root_calls l p g wr hl3
      have htop : g.top = (root, decide (0 < marks)) := by
        unfold Lg.top
        rw [hmk, hrt]
        split
        · rename_i h0; rw [h0, hno h0]; rfl
        · rename_i h0; rw [decide_eq_true (by omega)]
      rw [htop] at hrt2
      have m2 := cell_heap hb3 2
      have m3 := cell_heap hb3 3
      have m4 := cell_heap hb3 4
      have m5 := cell_heap hb3 5
      have mb := lt_heap hb3
      have HMW : Hid (Mod NoB w wr) := HM2.out.trans HM.out (fun _ _ h => h)
      simp only [List.getElem?_toArray, List.getElem?_cons_zero, List.getElem?_cons_succ] at m2 m3 m4 m5
      clear htop hl3 hb3 hlo hmo hmk hrt hno hln hwt HM HCL HB2 HL2 HM2
      by_cases h0 : marks = 0
      · subst h0
        have HRT := Lib.hid hrt2
        clear hrt2
        go_wp2_with fail
        refine HRT.out.mono ?_
        rintro e w' ⟨rfl, rfl⟩
        go_wp2_with fail
        refine wp_region_quiet_all (fun w' => ∃ x, w' = over _ (NoB) x) (by kernel_rfl) (by kernel_rfl) (Cls.drew _ _) ?_
        repeat (go_big_quiet_step ((first | (go_at_call 40; exact Calls.cls (fun _ _ h => h) (HLN.out _)) | (go_at_call 44; exact Calls.cls (fun _ _ h => h) (HWT.out _)))))
        refine wpQuiet_nil ?_
        rintro _ ⟨y, rfl⟩
        go_wp2
        go_ret
        exact ⟨rfl, HMW.out.trans (over_mod _ _ _) (fun _ _ h => h)⟩
      · have hmp : decide (0 < marks) = true := decide_eq_true (by omega)
        rw [hmp] at hrt2
        have HRT := Lib.hid hrt2
        clear hrt2
        go_wp2_with fail
        refine HRT.out.mono ?_
        rintro e w' ⟨rfl, rfl⟩
        go_wp2_with fail
        refine wp_region_quiet_all (fun w' => ∃ x, w' = over _ (NoB) x) (by kernel_rfl) (by kernel_rfl) (Cls.drew _ _) ?_
        repeat (go_big_quiet_step ((first | (go_at_call 40; exact Calls.cls (fun _ _ h => h) (HLN.out _)) | (go_at_call 44; exact Calls.cls (fun _ _ h => h) (HWT.out _)))))
        refine wpQuiet_nil ?_
        rintro _ ⟨y, rfl⟩
        go_wp2
        go_ret
        exact ⟨rfl, HMW.out.trans (over_mod _ _ _) (fun _ _ h => h)⟩

end Go.Proofs.Ytgofngilfdnakaa
