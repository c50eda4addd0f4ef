/-
  This text proves what cupellaw04.WalReads answers: under bounds that every argument keeps.
-/
import Derived.Test.YtgofngilfdnakaaLawA
import Derived.Deep.CutBlock
import Derived.Test.YtgofngilfdnakaaAwake4
import Derived.Test.YtgofngilfdnakaaRef3
import Derived.Deep.Cut
import Derived.Deep.CutRange
namespace Go.Proofs.Ytgofngilfdnakaa
open Go Go.RowKit
attribute [local go_sem] over_cell over_frozen lt_over le_over noB loudUpon ByteArray.mk_append_mk ByteArray.extract_mk drop_full

set_option maxRecDepth 100000 in
set_option maxHeartbeats 6400000 in
theorem WalReads_calls (v : Value) (ls : List Str) (root rest0 : Str) (w : World) (h : StrsIn w v ls) (hs : ∀ s ∈ ls, s.length ≤ 9223372036854775807) (hr : root.length ≤ 9223372036854775807) (ht : rest0.length ≤ 9223372036854775807) :
    Calls Try.prog 3 #[v, .string ⟨root.toArray⟩, .string ⟨rest0.toArray⟩] w fun e w' => e = .returned (.bool true) ∧ Mod NoB w w' := by
  have HIN := Lib.hid h
  have HS := Lib.hid hs
  have hrl : ∀ x ∈ cut ls, x.length ≤ 300 := fun x hx => by obtain ⟨y, _, rfl⟩ := List.mem_map.1 hx; exact few_length y
  have hrn : (cut ls).length ≤ 6 := by simp only [cut, List.length_map, List.length_take]; omega
  have HCUT : Hid (∀ X, Mod NoB w X → Calls Try.prog 18 #[v] X fun e w' => ∃ v', e = .returned v' ∧ Mod NoB X w' ∧ StrsIn w' v' (cut ls)) := fun X hm => (cut_calls v ls X (h.mod hm) hs).mono fun e w' ⟨v', h1, h2, h3⟩ => ⟨v', h1, h2, owns_strs h3⟩
  generalize cut ls = rs at *
  have hfl := few_length root
  have HFW := Lib.hid (fun X => few4_calls root X hr)
  generalize few root = rt at *
  have HRL := Lib.hid hrl
  clear h hs hrl
  go_enter Try.func3, Try.ntmps3
  go_wp2_with fail
  refine (New_calls w).mono ?_
  rintro e W1 ⟨rfl, hm1, hd1⟩
  generalize hp : w.heap.size + 2 = p at *
  clear hp
  have HD1 := Lib.hid (DS.made hm1 hd1)
  generalize Since NoB w W1 = S1 at HD1
  clear hm1 hd1
  go_upto_if 29 with fail
  go_cut [2] from 27 to 31 (fun r wx => r = .string ⟨(rest0.take 1000).toArray⟩ ∧ wx = W1)
  case first =>
    by_cases h1 : 1000 < rest0.length
    · go_wp2
      go_meet
      case rel => exact ⟨rfl, rfl⟩
    · go_wp2
      go_meet
      case rel => exact ⟨by rw [List.take_of_length_le (by omega)], rfl⟩
  case rest =>
  obtain ⟨rfl, rfl⟩ := hcut
  have htl : (rest0.take 1000).length ≤ 1000 := by rw [List.length_take]; omega
  generalize rest0.take 1000 = rest at *
  clear ht
  go_wp2_with fail
  refine (HCUT.out _ HD1.out.mod).mono ?_
  rintro e W2 ⟨v1, rfl, hm2, hi2⟩
  have HI2 := Lib.hid hi2
  have HD2 := Lib.hid (HD1.out.quiet hm2)
  clear hm2 hi2 HD1
  go_wp2_with fail
  refine (HFW.out _).mono ?_
  rintro e w' ⟨rfl, rfl⟩
  go_wp2_with fail
  refine (replaced_calls v1 rs rt _ HI2.out (by omega) (fun s hs => by have := HRL.out s hs; omega) (by omega)).mono ?_
  rintro e W3 ⟨v2, rfl, hm3, hr3⟩
  obtain ⟨a2, n2, c2, rfl⟩ := hr3.shape
  have HD3 := Lib.hid (HD2.out.quiet hm3)
  have HR3 := Lib.hid hr3
  clear hm3 hr3
  have hd4 := (HD3.out.quiet ((Mod.refl NoB W3).alloc (.cells #[.slice a2 n2 c2, .slice none 0 0, .int .i64 (Md.laid rs rt).long, .int .i64 0, .string ⟨rt.toArray⟩, .int .i64 1] 27))).holds (K' := fun k => k = W3.heap.size ∨ (Value.slice a2 n2 c2).ownBlock = some k) (fun k hk => by
    rcases hk with rfl | hk
    · exact ⟨by rw [size_alloc]; omega, HD3.out.fresh (Nat.le_refl _)⟩
    · have := HR3.out.lt k hk
      exact ⟨by rw [size_alloc]; omega, HD2.out.fresh this.1⟩)
  have hb4 : Box (W3.alloc (.cells #[.slice a2 n2 c2, .slice none 0 0, .int .i64 (Md.laid rs rt).long, .int .i64 0, .string ⟨rt.toArray⟩, .int .i64 1] 27)) W3.heap.size (.slice a2 n2 c2) (.slice none 0 0) (Md.laid rs rt) := heap_alloc_new _ _
  have hr4 : RecsAt (W3.alloc (.cells #[.slice a2 n2 c2, .slice none 0 0, .int .i64 (Md.laid rs rt).long, .int .i64 0, .string ⟨rt.toArray⟩, .int .i64 1] 27)) w.heap.size (.slice a2 n2 c2) (Md.laid rs rt).sure := ownsRow_mod (G := NoB) (ownsRow_base HR3.out HD2.out.mod.size) ((Mod.refl _ _).alloc _) (fun _ _ => id)
  have HD4 := Lib.hid hd4
  have HB4 := Lib.hid hb4
  have HR4 := Lib.hid hr4
  have HNE4 : Hid (∀ k, (Value.slice a2 n2 c2).ownBlock = some k → k ≠ W3.heap.size) := fun k hk e => by have := HR3.out.lt k hk; omega
  clear hd4 hb4 hr4 HR3 HI2
  go_wp2_with fail
  generalize W3.alloc (.cells #[.slice a2 n2 c2, .slice none 0 0, .int .i64 (Md.laid rs rt).long, .int .i64 0, .string ⟨rt.toArray⟩, .int .i64 1] 27) = W4 at *
  generalize W3.heap.size = B at *
  have hdl := datas_le rs 300 HRL.out
  have hdb : (datas rs).length ≤ 2000 := by
    have := Nat.mul_le_mul_right (300 + 9) hrn
    omega
  go_loopw [9, 10] (fun tx i wr => ∃ k : Nat, k ≤ rs.length ∧ i = .int .i64 k ∧ tx = .string ⟨(datas (rs.take k)).toArray⟩ ∧ Hid (Mod NoB W4 wr)) (fun _ i _ => rs.length - (intOf i).toNat)
  case atStart => exact ⟨0, by omega, rfl, rfl, Mod.refl _ _⟩
  case round =>
    obtain ⟨k, hkl, rfl, rfl, HM⟩ := hrel
    have HMW : Hid (Mod NoB w wr) := HD4.out.mod.trans HM.out (fun _ _ h => h)
    go_wp2_with fail
    refine (HCUT.out _ HMW.out).mono ?_
    rintro e X1 ⟨va, rfl, hma, hia⟩
    obtain ⟨aa, ca, rfl, hac, hacm, hacell⟩ := hia
    have HM1 : Hid (Mod NoB W4 X1) := HM.out.trans hma (fun _ _ h => h)
    have HMW1 : Hid (Mod NoB w X1) := HMW.out.trans hma (fun _ _ h => h)
    clear hacell hma HM HMW
    by_cases hlt : k < rs.length
    · go_wp2_with fail
      refine (HCUT.out _ HMW1.out).mono ?_
      rintro e X2 ⟨vb, rfl, hmb, hib⟩
      obtain ⟨ab, cb, rfl, hbc, hbcm, hbcell⟩ := hib
      obtain ⟨b, o, rfl, hb, hc⟩ := hbcell k hlt
      have HM2 : Hid (Mod NoB W4 X2) := HM1.out.trans hmb (fun _ _ h => h)
      have hsl : (rs[k]?.getD []).length ≤ 300 := HRL.out _ (by rw [List.getElem?_eq_getElem hlt]; exact List.getElem_mem hlt)
      have htk : datas (rs.take (k + 1)) = datas (rs.take k) ++ frame (100 :: (rs[k]?.getD [])) := by
        rw [List.take_succ_eq_append_getElem hlt, datas_append, List.getElem?_eq_getElem hlt]; simp [datas]
      have hd1 : (datas (rs.take k)).length ≤ 2000 := by
        have := datas_append (rs.take k) (rs.drop k)
        rw [List.take_append_drop] at this
        have h2 := congrArg List.length this
        rw [List.length_append] at h2
        omega
      generalize rs[k]?.getD [] = s at *
      have hfl2 := frame_length (100 :: s)
      rw [List.length_cons] at hfl2
      have HFR := Lib.hid (fun X => RefFrame_calls (100 :: s) X (by simp only [List.length_cons]; omega))
      have HTK := Lib.hid htk
      clear htk hmb hbcell HM1 HMW1
      go_wp2_with fail
      refine (HFR.out _).mono ?_
      rintro e X3 ⟨rfl, hmc⟩
      have HM3 : Hid (Mod NoB W4 X3) := HM2.out.trans hmc (fun _ _ h => h)
      clear hmc HM2
      go_wp2_with fail
      go_roundw
      case rel => exact ⟨k + 1, by omega, by go_num, by rw [HTK.out], HM3⟩
      case measure => simp [intOf]; omega
    · have hk : k = rs.length := by omega
      subst hk
      rw [List.take_length]
      have HM4 := HM1
      clear HM1 HMW1
      have hfr := frame_length (109 :: rt)
      rw [List.length_cons] at hfr
      have HFR := Lib.hid (fun X => RefFrame_calls (109 :: rt) X (by simp only [List.length_cons]; omega))
      go_wp2_with fail
      refine (HFW.out _).mono ?_
      rintro e w' ⟨rfl, rfl⟩
      go_wp2_with fail
      refine (HFR.out _).mono ?_
      rintro e X3 ⟨rfl, hmc⟩
      have HM5 : Hid (Mod NoB W4 X3) := HM4.out.trans hmc (fun _ _ h => h)
      clear hmc HM4 HFR
      have hll : (datas rs ++ frame (109 :: rt)) = laidText rs rt := rfl
      have hbx : Box X3 B (.slice a2 n2 c2) (.slice none 0 0) (Md.laid rs rt) := (HM5.out.block _ (lt_heap HB4.out) id).trans HB4.out
      obtain ⟨xb, x0, x1, x2, x3, x4, x5, xf⟩ := hbx.facts
      have HD5 := Lib.hid (HD4.out.quiet HM5.out)
      have HR5 : Hid (RecsAt X3 w.heap.size (.slice a2 n2 c2) (Md.laid rs rt).sure) := ownsRow_mod HR4.out HM5.out (fun _ _ => id)
      have hrp := RP.first rs rt rest (fun x hx => by have := HRL.out x hx; omega) (by omega)
      have HRP0 : Hid ((laidText rs rt).length ≤ (laidText rs rt ++ rest).length) := by show _ ≤ _; rw [List.length_append]; omega
      have htx : (laidText rs rt).length ≤ 3000 := by simp only [laidText, List.length_append, frame_length, List.length_cons]; omega
      have hw0 : (Md.laid rs rt).wait = [] := rfl
      have HRP := Lib.hid hrp
      have HW0 := Lib.hid hw0
      generalize Md.laid rs rt = m0 at *
      generalize laidText rs rt = text at *
      have hne := HNE4.out
      have hrv : RV w (X3.alloc (.cells #[.slice a2 n2 c2, .slice none 0 0, .int .i64 m0.long, .int .i64 m0.more, .string ⟨m0.root.toArray⟩, .int .i64 m0.marks] 27)) S1 p X3.heap.size (.slice a2 n2 c2) (.slice none 0 0) Dk.fresh m0 := by
        have hmx : Mod NoB X3 (X3.alloc (.cells #[.slice a2 n2 c2, .slice none 0 0, .int .i64 m0.long, .int .i64 m0.more, .string ⟨m0.root.toArray⟩, .int .i64 m0.marks] 27)) := (Mod.refl _ _).alloc _
        refine ⟨(HD5.out.quiet hmx).holds (fun k hk => ?_), heap_alloc_new _ _, ownsRow_mod HR5.out hmx (fun _ _ => id), recs_nil HW0.out, fun e => ?_, fun e => (by cases e), HD5.out.mod.size⟩
        · rcases hk with rfl | hk | hk
          · exact ⟨by rw [size_alloc]; omega, HD5.out.fresh (Nat.le_refl _)⟩
          · exact (HD5.out.quiet hmx).apart k (.inr hk)
          · cases hk
        · have := (HR5.out.lt _ e).2; omega
      have HRV := Lib.hid hrv
      have HAL : Hid ((text ++ rest).length ≤ 4000) := by show _ ≤ _; rw [List.length_append]; omega
      clear hrp hbx HD4 HB4 HR4 HM5 hne hrv hw0 HD5 HR5
      go_upto_block 2 with fail
      generalize X3.alloc (.cells #[.slice a2 n2 c2, .slice none 0 0, .int .i64 m0.long, .int .i64 m0.more, .string ⟨m0.root.toArray⟩, .int .i64 m0.marks] 27) = W5 at *
      generalize X3.heap.size = C at *
      generalize text.length = k0 at *
      generalize text ++ rest = A at *
      go_cut [11] from 68 to 136 (fun fi wx => ∃ fin : Nat, fi = .int .i64 fin ∧ Hid (∃ k m v1 v2, scan A = (fin, m.root, m.marks) ∧ RP A k fin m ∧ RV w wx S1 p C v1 v2 Dk.fresh m))
      case first =>
        have HINI : Hid (∃ m v1 v2, RP A k0 k0 m ∧ RV w W5 S1 p C v1 v2 Dk.fresh m) := ⟨_, _, _, HRP.out, HRV.out⟩
        clear HRP HRV
        go_wp2_with fail
        go_loopw [11, 12] (fun fi i wr => ∃ k fin : Nat, fi = .int .i64 fin ∧ i = .int .i64 k ∧ k ≤ A.length ∧ Hid (∃ m v1 v2, RP A k fin m ∧ RV w wr S1 p C v1 v2 Dk.fresh m)) (fun _ i _ => A.length - (intOf i).toNat)
        case atStart => exact ⟨k0, k0, rfl, rfl, HRP0.out, HINI⟩
        case round =>
          obtain ⟨k, fin, rfl, rfl, hkl, HREL⟩ := hrel
          have hal := HAL.out
          by_cases hlt : k < A.length
          · obtain ⟨m, v1, v2, hP, hV⟩ := HREL.out
            obtain ⟨a1, n1, c1, rfl⟩ := hV.r1.shape
            obtain ⟨a2, n2, c2, rfl⟩ := hV.r2.shape
            have hun := RefUnframe_calls A k (by omega) hkl wr
            have HP := Lib.hid hP
            have HV := Lib.hid hV
            rcases hu : unframe A k with ⟨t, n, e⟩
            rw [hu] at hun
            simp only at hun
            have HUN := Lib.hid hun
            have HU := Lib.hid hu
            clear hun hu hP hV HREL
            by_cases he : e = 0
            · subst he
              cases t with
              | nil =>
                have HST : Hid (∀ c t n, unframe A k = (c :: t, n, 0) → c ≠ 100 ∧ c ≠ 109) := fun c t n h => by rw [HU.out] at h; cases h
                go_wp2_with fail
                refine HUN.out.mono ?_
                rintro e w2 ⟨rfl, hm⟩
                have HR2 : Hid (∃ k m v1 v2, scan A = (fin, m.root, m.marks) ∧ RP A k fin m ∧ RV w w2 S1 p C v1 v2 Dk.fresh m) := ⟨k, _, _, _, HP.out.done (.inr HST.out), HP.out, HV.out.quiet hm⟩
                clear hm HP HV HUN
                go_wp2_with fail
                go_meet
                case rel => exact ⟨fin, rfl, HR2⟩
              | cons c t =>
                by_cases q1 : c = 100
                · subst q1
                  go_upto_region 19 with (go_at_call 21; refine HUN.out.mono ?_; rintro e w2 ⟨rfl, hm⟩)
                  have hV2 := HV.out.quiet hm
                  obtain ⟨xb, x0, x1, x2, x3, x4, x5, xf⟩ := hV2.box.facts
                  have hcnt := HP.out.cnt
                  have hlk := HP.out.lek
                  have HV2 := Lib.hid hV2
                  have HLW := Lib.hid hV2.ds.mod.size
                  clear hm hV2 HUN HV
                  go_cut [] from 68 to 136 (fun wx => ∃ b n c, RV w wx S1 p C (.slice a1 n1 c1) (.slice b n c) Dk.fresh { m with wait := m.wait ++ [((k : Int), t)] })
                  case first =>
                    have hone : (1 ≤ (t.length : Int) + 1) = True := eq_true (by omega)
                    go_region_law (first
                      | (refine step_recs rfl (.tmp 98) (.tmp 100) rfl (v := .slice (some ⟨_, 0, none⟩) 0 0) (v2 := .slice a2 n2 c2) rfl rfl (base := w2.heap.size) (base2 := w.heap.size) (l := []) (l2 := m.wait) ?_ ?_ ?_ ?_ ?_
                         · exact recs_empty (by (first | exact heap_alloc_at _ _ _ (by simp only [size_alloc]) | exact heap_alloc_old _ _ _ (by simp only [size_alloc]; omega) (heap_alloc_at _ _ _ rfl))) (by omega)
                         · exact ownsRow_mod HV2.out.r2 (by (repeat (first | with_reducible exact Mod.refl _ _ | with_reducible refine Mod.drew ?_ | with_reducible refine Mod.alloc ?_ _))) (fun _ _ => id)
                         · simp only [List.length_nil]; omega
                         · simp only [size_alloc, heap_drew]; omega
                         intro b4 n4 c4 W6 hr6 hg6 hk6
                         have hW6 : Mod NoB w2 W6 := Mod.grown (by (repeat (first | with_reducible exact Mod.refl _ _ | with_reducible refine Mod.drew ?_ | with_reducible refine Mod.alloc ?_ _))) hg6 (fun q hq hl => by simp only [Value.ownBlock, Option.some.injEq] at hq; omega)
                         have hk6' : ∀ q, (Value.slice b4 n4 c4).ownBlock = some q → w2.heap.size ≤ q := fun q hq => (hr6.lt q hq).1)
                      | (refine step_recs rfl (.tmp 101) (.tmp 106) rfl (v := .slice b4 n4 c4) (v2 := .slice (some ⟨_, 0, none⟩) 1 1) rfl rfl (base := w2.heap.size) (base2 := w2.heap.size) (l := m.wait) (l2 := [((k : Int), t)]) ?_ ?_ ?_ ?_ ?_
                         · exact ownsRow_mod hr6 (by (repeat (first | with_reducible exact Mod.refl _ _ | with_reducible refine Mod.drew ?_ | with_reducible refine Mod.alloc ?_ _))) (fun _ _ => id)
                         · exact recs_one (by (first | exact heap_alloc_at _ _ _ rfl | exact (hg6.block _ (by simp only [size_alloc, heap_drew]; omega) (by simp only [Value.ownBlock, Option.some.injEq, ne_eq, Option.some.injEq]; omega)).trans (by first | exact heap_alloc_at _ _ _ (by simp only [size_alloc]) | exact heap_alloc_old _ _ _ (by simp only [size_alloc]; omega) (heap_alloc_at _ _ _ rfl)))) (by have := hW6.size; omega)
                         · simp only [List.length_cons, List.length_nil]; omega
                         · have := hW6.size; (try simp only [size_alloc]); omega
                         intro b5 n5 c5 W7 hr7 hg7 hk7
                         have hW7 : Mod NoB w2 W7 := hW6.trans (Mod.grown (F := fun q => w2.heap.size ≤ q) (by (repeat (first | with_reducible exact Mod.refl _ _ | with_reducible refine Mod.drew ?_ | with_reducible refine Mod.alloc ?_ _))) hg7 (fun q hq hl => hk6' q hq)) (fun q hq h => by omega)
                         have hc7 := (World.cell?_of_block (w := w2) (hW7.block C xb id) : W7.cell? ⟨C, 1, none⟩ = _).trans x1
                         have hf7 := (World.frozen?_of_block (w := w2) (hW7.block C xb id) : W7.frozen? ⟨C, 1, none⟩ = _).trans (xf 1)
                         have hz7 := Nat.lt_of_lt_of_le xb hW7.size))
                    all_goals (go_wp2_with fail; go_meet; exact ⟨b5, n5, c5, HV2.out.waited hW7 hr7⟩)
                  case rest =>
                    obtain ⟨b5, n5, c5, hV3⟩ := hcut
                    obtain ⟨yb, y0, y1, y2, y3, y4, y5, yf⟩ := hV3.box.facts
                    have hmore := HP.out.more
                    have hP2 := HP.out.data HU.out
                    have hnk : n = k + t.length + 9 ∧ n ≤ A.length := by
                      obtain ⟨_, h2, h3, _⟩ := take_frame HU.out HP.out.lek
                      simp only [List.length_cons] at h3
                      omega
                    obtain ⟨hnk, hnl⟩ := hnk
                    have HV3 := Lib.hid hV3
                    have HP2 := Lib.hid hP2
                    have HNK := Lib.hid hnk
                    clear hV3 hP2 hnk HV2 HU HP x0 x1 x2 x3 x4 x5 xf xb
                    go_wp2_with fail
                    have hnk := HNK.out
                    have e : ((m.more : Int) + ((n : Int) - (k : Int))) = ((m.more + (n - k) : Nat) : Int) := by omega
                    rw [e]
                    exact ⟨⟨n, fin, rfl, rfl, hnl, _, _, _, HP2.out, HV3.out.mored _⟩, by simp [intOf]; omega⟩
                · by_cases q2 : c = 109
                  · subst q2
                    have hgd : ∀ h, (({ data := ((109 : UInt8) :: t).toArray } : ByteArray)[0]'h).toNat = 109 := fun h => rfl
                    go_upto_region 21 with (go_at_call 21; refine HUN.out.mono ?_; rintro e w2 ⟨rfl, hm⟩)
                    have hV2 := HV.out.quiet hm
                    obtain ⟨xb, x0, x1, x2, x3, x4, x5, xf⟩ := hV2.box.facts
                    have hcnt := HP.out.cnt
                    have hlk := HP.out.lek
                    have HV2 := Lib.hid hV2
                    clear hm hV2 HUN HV
                    go_cut [] from 68 to 136 (fun wx => ∃ b n c, RV w wx S1 p C (.slice b n c) (.slice a2 n2 c2) Dk.fresh { m with sure := m.sure ++ m.wait })
                    case first =>
                      go_region_law (first
                        | (refine step_recs rfl (.tmp 116) (.tmp 118) rfl (v := .slice (some ⟨_, 0, none⟩) 0 0) (v2 := .slice a1 n1 c1) rfl rfl (base := w2.heap.size) (base2 := w.heap.size) (l := []) (l2 := m.sure) ?_ ?_ ?_ ?_ ?_
                           · exact recs_empty (by (exact heap_alloc_at _ _ _ rfl)) (by omega)
                           · exact ownsRow_mod HV2.out.r1 (by (repeat (first | with_reducible exact Mod.refl _ _ | with_reducible refine Mod.drew ?_ | with_reducible refine Mod.alloc ?_ _))) (fun _ _ => id)
                           · simp only [List.length_nil]; omega
                           · simp only [size_alloc, heap_drew]; omega
                           intro b4 n4 c4 W6 hr6 hg6 hk6
                           have hW6 : Mod NoB w2 W6 := Mod.grown (by (repeat (first | with_reducible exact Mod.refl _ _ | with_reducible refine Mod.drew ?_ | with_reducible refine Mod.alloc ?_ _))) hg6 (fun q hq hl => by simp only [Value.ownBlock, Option.some.injEq] at hq; omega)
                           have hk6' : ∀ q, (Value.slice b4 n4 c4).ownBlock = some q → w2.heap.size ≤ q := fun q hq => (hr6.lt q hq).1
                           have hc6 := (World.cell?_of_block (w := w2) (hW6.block C xb id) : W6.cell? ⟨C, 1, none⟩ = _).trans x1
                           have hz6 := Nat.lt_of_lt_of_le xb hW6.size)
                        | (refine step_recs rfl (.tmp 119) (.tmp 121) rfl (v := .slice b4 n4 c4) (v2 := .slice a2 n2 c2) rfl rfl (base := w2.heap.size) (base2 := w.heap.size) (l := m.sure) (l2 := m.wait) ?_ ?_ ?_ ?_ ?_
                           · exact hr6
                           · exact ownsRow_mod HV2.out.r2 hW6 (fun _ _ => id)
                           · omega
                           · exact hW6.size
                           intro b5 n5 c5 W7 hr7 hg7 hk7
                           have hW7 : Mod NoB w2 W7 := hW6.trans (Mod.grown (F := fun q => w2.heap.size ≤ q) (by (repeat (first | with_reducible exact Mod.refl _ _ | with_reducible refine Mod.drew ?_ | with_reducible refine Mod.alloc ?_ _))) hg7 (fun q hq hl => hk6' q hq)) (fun q hq h => by omega)
                           have hc7 := (World.cell?_of_block (w := w2) (hW7.block C xb id) : W7.cell? ⟨C, 0, none⟩ = _).trans x0
                           have hf7 := (World.frozen?_of_block (w := w2) (hW7.block C xb id) : W7.frozen? ⟨C, 0, none⟩ = _).trans (xf 0)
                           have hz7 := Nat.lt_of_lt_of_le xb hW7.size))
                      all_goals (go_wp2_with fail; go_meet; exact ⟨b5, n5, c5, HV2.out.sured hW7 hr7⟩)
                    case rest =>
                      obtain ⟨b5, n5, c5, hV3⟩ := hcut
                      have HV3 := Lib.hid hV3
                      obtain ⟨yb, y0, y1, y2, y3, y4, y5, yf⟩ := hV3.box.facts
                      have hP2 := HP.out.mark HU.out
                      have hmk := HP.out.mk2
                      have hnk : n = k + t.length + 9 ∧ n ≤ A.length := by
                        obtain ⟨_, h2, h3, _⟩ := take_frame HU.out HP.out.lek
                        simp only [List.length_cons] at h3
                        omega
                      obtain ⟨hnk, hnl⟩ := hnk
                      have HP2 := Lib.hid hP2
                      have HNK := Lib.hid hnk
                      clear hV3 hP2 hnk HV2 HU HP x0 x1 x2 x3 x4 x5 xf xb
                      go_upto_region 22 with fail
                      go_cut [] from 68 to 136 (fun wx => RV w wx S1 p C (.slice b5 n5 c5) (.slice none 0 0) Dk.fresh (m.sealed n t))
                      case first =>
                        have hone : (1 ≤ (t.length : Int) + 1) = True := eq_true (by omega)
                        have hmd := fun X (hX : Mod NoB wc X) => HV3.out.marked n (m.marks + 1) t hX
                        have e : (((m.marks + 1 : Nat)) : Int) = (m.marks : Int) + 1 := by omega
                        rw [e] at hmd
                        have HMD := Lib.hid hmd
                        clear hmd e
                        have hwr : IntKind.i64.wrap ((m.marks : Int) + 1) = (m.marks : Int) + 1 := by rw [IntKind.wrap_i64]; omega
                        go_region_law fail
                        all_goals (go_wp2_with fail; go_meet; exact (HMD.out _ (Mod.refl _ _)).quiet (Mod.refl _ _).drew)
                      case rest =>
                        have HRR : Hid (RV w wc S1 p C (.slice b5 n5 c5) (.slice none 0 0) Dk.fresh (m.sealed n t)) := hcut
                        clear hcut
                        go_wp2_with fail
                        have hnk := HNK.out
                        exact ⟨⟨n, n, rfl, rfl, hnl, _, _, _, HP2.out, HRR.out⟩, by simp [intOf]; omega⟩
                  · have HST : Hid (∀ c t n, unframe A k = (c :: t, n, 0) → c ≠ 100 ∧ c ≠ 109) := fun c' t' n' h => by rw [HU.out] at h; cases h; exact ⟨q1, q2⟩
                    have n1 : c.toNat ≠ 100 := fun e => q1 (UInt8.toNat_inj.1 e)
                    have n2 : c.toNat ≠ 109 := fun e => q2 (UInt8.toNat_inj.1 e)
                    have d1 : ((c.toNat : Int) != 100) = true := by simp; omega
                    have d2 : ((c.toNat : Int) != 109) = true := by simp; omega
                    have hgd : ∀ h, (({ data := (c :: t).toArray } : ByteArray)[0]'h) = c := fun h => rfl
                    clear q1 q2 n1 n2
                    go_wp2_with fail
                    refine HUN.out.mono ?_
                    rintro e w2 ⟨rfl, hm⟩
                    have HR2 : Hid (∃ k m v1 v2, scan A = (fin, m.root, m.marks) ∧ RP A k fin m ∧ RV w w2 S1 p C v1 v2 Dk.fresh m) := ⟨k, _, _, _, HP.out.done (.inr HST.out), HP.out, HV.out.quiet hm⟩
                    clear hm HP HV HUN
                    go_wp2_with fail
                    go_meet
                    case rel => exact ⟨fin, rfl, HR2⟩
            · have he' : (e != 0) = true := by simpa using he
              have HST : Hid (∀ c t n, unframe A k = (c :: t, n, 0) → c ≠ 100 ∧ c ≠ 109) := fun c' t' n' h => by rw [HU.out] at h; cases h; exact absurd rfl he
              have HE := Lib.hid he
              clear he
              go_wp2_with fail
              refine HUN.out.mono ?_
              rintro e w2 ⟨rfl, hm⟩
              have HR2 : Hid (∃ k m v1 v2, scan A = (fin, m.root, m.marks) ∧ RP A k fin m ∧ RV w w2 S1 p C v1 v2 Dk.fresh m) := ⟨k, _, _, _, HP.out.done (.inr HST.out), HP.out, HV.out.quiet hm⟩
              clear hm HP HV HUN
              go_wp2_with fail
              go_meet
              case rel => exact ⟨fin, rfl, HR2⟩
          · have hk : k = A.length := by omega
            have HR2 : Hid (∃ k m v1 v2, scan A = (fin, m.root, m.marks) ∧ RP A k fin m ∧ RV w wr S1 p C v1 v2 Dk.fresh m) := by
              obtain ⟨m, v1, v2, hP, hV⟩ := HREL.out
              exact ⟨k, m, v1, v2, hP.done (.inl hk), hP, hV⟩
            clear HREL hk
            go_wp2_with fail
            go_meet
            case rel => exact ⟨fin, rfl, HR2⟩
      case rest =>
        obtain ⟨fin, rfl, HFIN⟩ := hcut
        obtain ⟨k, m, v1, v2, hsc, hP, hV⟩ := HFIN.out
        obtain ⟨a1, n1, c1, rfl⟩ := hV.r1.shape
        obtain ⟨a3, n3, c3, rfl⟩ := hV.r2.shape
        obtain ⟨xb, x0, x1, x2, x3, x4, x5, xf⟩ := hV.box.facts
        have HSC := Lib.hid hsc
        have HP := Lib.hid hP
        have HV := Lib.hid hV
        have hfk := hP.le
        have hkl := hP.lek
        have hal := HAL.out
        clear hsc hP hV HFIN
        go_wp2_with fail
        refine (awake_calls _).mono ?_
        rintro e Wa ⟨rfl, hma⟩
        have HVa := Lib.hid (HV.out.rested.quiet hma)
        have hw1 := Write_calls p S1 Dk.fresh logName A 0 Wa HVa.out.ds.disk fit_fresh (by decide) (by omega)
        rw [read_write1] at hw1
        have HWR := Lib.hid hw1
        clear hma hw1 HV x0 x1 x2 x3 x4 x5 xf xb
        go_wp2_with fail
        refine HWR.out.mono ?_
        rintro e Wb ⟨rfl, hmb, hdb⟩
        have HVb := Lib.hid (HVa.out.disk hmb hdb)
        generalize Since S1 Wa Wb = S2 at HVb
        have hf1 := fit_fresh.write logName A (by omega)
        rw [read_write1] at hf1
        have hw1 := Write_calls p S2 (readDisk1 A) freshName rest _ Wb HVb.out.ds.disk hf1 (by decide) (by omega)
        rw [read_write2] at hw1
        have HWR2 := Lib.hid hw1
        have HF1 := Lib.hid hf1
        clear hmb hdb hw1 hf1 HWR HVa
        go_wp2_with fail
        refine HWR2.out.mono ?_
        rintro e Wc ⟨rfl, hmc, hdc⟩
        have HVc := Lib.hid (HVb.out.disk hmc hdc)
        generalize Since S2 Wb Wc = S3 at HVc
        have hf2 := HF1.out.write freshName rest (by omega)
        rw [read_write2] at hf2
        have hsy := Sync_calls p S3 (readDisk2 A rest) Wc HVc.out.ds.disk
        rw [read_sync] at hsy
        have HSY := Lib.hid hsy
        have HF2 := Lib.hid hf2
        clear hmc hdc hsy hf2 HWR2 HVb HF1
        go_wp2_with fail
        refine HSY.out.mono ?_
        rintro e Wd ⟨rfl, hmd, hdd⟩
        have HVd := Lib.hid (HVc.out.disk hmd hdd)
        generalize Since S3 Wc Wd = S4 at HVd
        have hf3 := HF2.out.sync
        rw [read_sync] at hf3
        obtain ⟨ch, hch, hopn⟩ := read_open A rest m.root fin m.marks HSC.out (by omega)
        have hop := Open_calls p S4 (readDisk A rest) _ Wd HVd.out.ds.disk hf3 (by omega)
        rw [hopn] at hop
        have HOP := Lib.hid hop
        clear hmd hdd hop hf3 hopn HSY HVc HF2
        go_wp2_with fail
        refine HOP.out.mono ?_
        rintro e We ⟨l, rfl, hl0, hle, hme, hde⟩
        have hVe := HVd.out.opened hl0 hle hme hde
        generalize (fun k => Since S4 Wd We k ∧ k ≠ l) = S5 at hVe
        have HLE := Lib.hid hle
        have HVe := Lib.hid hVe
        have hmk := HP.out.mk2
        have hcn := HP.out.cnt
        have hag := (HP.out.holds).agree (by have := HP.out.long; simp only [Md.rest]; omega)
        have hsm := fun X (hm : Mod NoB We X) => same_calls l p w.heap.size w.heap.size ⟨A.take fin, [], m.root, m.marks⟩ _ _ m.rest X (hle.mod hm id) (ownsRow_mod hVe.r1 hm (fun _ _ => id)) (ownsRow_mod hVe.r2 hm (fun _ _ => id)) (by simp only [Md.rest, List.length_nil]; omega) hag (by have := HP.out.long; simp only [Md.rest]; omega) (by simp only [Md.rest]; omega) (by simp only [Md.rest]; omega)
        have HSM := Lib.hid hsm
        have HAG := Lib.hid hag
        obtain ⟨xb, x0, x1, x2, x3, x4, x5, xf⟩ := hVe.box.facts
        clear hl0 hle hme hde hVe hag hsm HOP HVd
        go_wp2_with fail
        refine (HSM.out We (Mod.refl _ _)).mono ?_
        rintro e Wf ⟨rfl, hmf⟩
        have hrd := Read_calls p S5 (dk (-1) ch (A.take fin)) freshName Wf (HVe.out.quiet hmf).ds.disk (by decide)
        have hrr : (dk (-1) ch (A.take fin)).read freshName = ([], 2) := rfl
        rw [hrr] at hrd
        have HRD := Lib.hid hrd
        have HMF := Lib.hid hmf
        clear hrd hrr hmf
        go_wp2_with fail
        refine HRD.out.mono ?_
        rintro e Wg ⟨rfl, hmg⟩
        have HMG := Lib.hid (HMF.out.trans hmg (fun _ _ h => h))
        have htf : (A.take fin).length = fin := by rw [List.length_take]; omega
        have hwh := HP.out.whole
        rw [← htf] at hwh
        have hdo := dk_open (-1) ch (A.take fin) m.root m.marks (by rw [htf] at hwh ⊢; exact hwh)
        have hop := Open_calls p S5 (dk (-1) ch (A.take fin)) 5000 Wg (HVe.out.quiet HMG.out).ds.disk (fit_dk (by omega) (by omega) (by omega) (by omega)) (by omega)
        rw [hdo] at hop
        have HOP := Lib.hid hop
        clear hmg HRD HMF htf hwh hdo hop
        go_wp2_with fail
        refine HOP.out.mono ?_
        rintro e Wh ⟨l2, rfl, hl0, hlh, hmh, hdh⟩
        have hVh := (HVe.out.quiet HMG.out).opened hl0 hlh hmh hdh
        have hsm := same_calls l2 p w.heap.size w.heap.size ⟨A.take fin, [], m.root, m.marks⟩ _ _ m.rest Wh hlh hVh.r1 hVh.r2 (by simp only [Md.rest, List.length_nil]; omega) HAG.out (by have := HP.out.long; simp only [Md.rest]; omega) (by simp only [Md.rest]; omega) (by simp only [Md.rest]; omega)
        have HSM2 := Lib.hid hsm
        have HMH := Lib.hid hVh.ds.mod
        obtain ⟨zb, z0, z1, z2, z3, z4, z5, zf⟩ := hVh.box.facts
        clear hl0 hlh hmh hdh hVh hsm HOP x0 x1 x2 x3 x4 x5 xf xb HSM HAG HVe HLE
        go_wp2_with fail
        refine HSM2.out.mono ?_
        rintro e Wi ⟨rfl, hmi⟩
        have HMI := Lib.hid (HMH.out.trans hmi (fun _ _ h => h))
        clear hmi HSM2
        go_wp2_with fail
        go_ret
        exact ⟨rfl, HMI.out⟩

end Go.Proofs.Ytgofngilfdnakaa
