/-
  This text proves what cupellaw04.WalOpens answers: under bounds that every argument keeps.
-/
import Derived.Test.YtgofngilfdnakaaOpenP
import Derived.Test.YtgofngilfdnakaaDiskX
import Derived.Test.YtgofngilfdnakaaOpenFall
import Derived.Test.YtgofngilfdnakaaLawT
import Derived.Test.YtgofngilfdnakaaRef3
import Derived.Test.YtgofngilfdnakaaAwake4
import Derived.Deep.Cut
import Derived.Deep.CutRange
import Derived.Deep.CutBlock
import Derived.Deep.RegionWith
namespace Go.Proofs.Ytgofngilfdnakaa
open Go Go.RowKit
attribute [local go_sem] over_cell over_frozen lt_over le_over noB loudUpon ByteArray.mk_append_mk ByteArray.extract_mk drop_full

theorem OpenPost.any {p : Nat} {S : Nat → Prop} {w w' : World} {r : Option Lg × Int × Int × Dk} {e : Ending} (h : OpenPost p S w r e w') : (∃ l t x, e = .returned (.tuple #[.pointer l, .int .i64 t, .int .i64 x])) ∧ Mod S w w' ∧ Disk w' p (Since S w w') r.2.2.2 := by
  obtain ⟨g, t, x, d⟩ := r
  cases g with
  | none => obtain ⟨h1, h2, h3⟩ := h; exact ⟨⟨_, _, _, h1⟩, h2, h3⟩
  | some g => obtain ⟨l, h1, _, _, h2, h3⟩ := h; exact ⟨⟨_, _, _, h1⟩, h2, h3.mono (fun _ _ hk => hk.1)⟩
theorem HD.fit {r : Nat × Str × Nat} {d : Dk} {n : Nat} (h : HD r d n) (hn : n ≤ 400000000) : Fit d n := ⟨h.le, hn, by rw [h.room]; decide, by rw [h.room]; decide⟩
theorem Fall3.facts {w : World} {D : Nat} {x0 x1 x2 : Value} (h : w.heap[D]? = some (.cells #[x0, x1, x2] 56 (0, 0))) : D < w.heap.size ∧ w.cell? ⟨D, 0, none⟩ = some x0 ∧ w.cell? ⟨D, 1, none⟩ = some x1 ∧ w.cell? ⟨D, 2, none⟩ = some x2 ∧ ∀ i, w.frozen? ⟨D, i, none⟩ = false :=
  ⟨lt_heap h, (cell_heap h 0).trans rfl, (cell_heap h 1).trans rfl, (cell_heap h 2).trans rfl, frozen_heap h⟩
theorem top_same (s s' root : Str) (marks : Nat) : (⟨s, [], root, marks⟩ : Lg).top = (⟨s', [], root, marks⟩ : Lg).top := rfl

set_option maxRecDepth 100000 in
set_option maxHeartbeats 6400000 in
theorem WalOpens_calls (v fv : Value) (ls : List Str) (rest0 : Str) (fs : List Fall) (w : World) (h : StrsIn w v ls) (hs : ∀ s ∈ ls, s.length ≤ 9223372036854775807) (hr : rest0.length ≤ 9223372036854775807) (hf : FallsIn w fv fs) :
    Calls Try.prog 5 #[v, .string ⟨rest0.toArray⟩, fv] w fun e w' => e = .returned (.bool true) ∧ Mod NoB w w' := by
  have hrl : ∀ x ∈ cut ls, x.length ≤ 300 := fun x hx => by obtain ⟨y, _, rfl⟩ := List.mem_map.1 hx; exact few_length y
  have hrn : (cut ls).length ≤ 6 := by simp only [cut, List.length_map, List.length_take]; omega
  have HCUT : Hid (∀ X, Mod NoB w X → Calls Try.prog 18 #[v] X fun e w' => ∃ v', e = .returned v' ∧ Mod NoB X w' ∧ StrsIn w' v' (cut ls)) := fun X hm => (cut_calls v ls X (h.mod hm) hs).mono fun e w' ⟨v', h1, h2, h3⟩ => ⟨v', h1, h2, owns_strs h3⟩
  generalize cut ls = rs at *
  have hfl := few_length rest0
  have HFW := Lib.hid (fun X => few4_calls rest0 X hr)
  generalize few rest0 = rest at *
  have HRL := Lib.hid hrl
  obtain ⟨fa, fcap, rfl, hfc, hfm, hfcell⟩ := hf
  rw [maxLen_eq] at hfm
  have HFC := Lib.hid hfcell
  clear h hs hrl hfcell
  go_enter Try.func5, Try.ntmps5
  go_wp2_with fail
  refine (New_calls w).mono ?_
  rintro e W1 ⟨rfl, hm1, hd1⟩
  generalize hp : w.heap.size + 2 = p at *
  clear hp
  have HD1 := Lib.hid (DS.made hm1 hd1)
  generalize Since NoB w W1 = S1 at HD1
  clear hm1 hd1
  go_upto_block 0 with fail
  go_cut [8] from 24 to 51 (fun tv wx => ∃ t : Str, tv = .string ⟨t.toArray⟩ ∧ t.length ≤ 4200 ∧ Hid (Mod NoB W1 wx))
  case first =>
    go_wp2_with fail
    go_loopw [8, 9] (fun tx i wr => ∃ (k : Nat) (t : Str), k ≤ rs.length ∧ i = .int .i64 k ∧ tx = .string ⟨t.toArray⟩ ∧ t.length ≤ 700 * k ∧ Hid (Mod NoB W1 wr)) (fun _ i _ => rs.length - (intOf i).toNat)
    case atStart => exact ⟨0, [], by omega, rfl, rfl, by simp, Mod.refl _ _⟩
    case round =>
      obtain ⟨k, t, hkl, rfl, rfl, htl, HM⟩ := hrel
      have HMW : Hid (Mod NoB w wr) := HD1.out.mod.trans HM.out (fun _ _ h => h)
      go_wp2_with fail
      refine (HCUT.out _ HMW.out).mono ?_
      rintro e X1 ⟨va, rfl, hma, hia⟩
      obtain ⟨aa, ca, rfl, hac, hacm, hacell⟩ := hia
      have HM1 : Hid (Mod NoB W1 X1) := HM.out.trans hma (fun _ _ h => h)
      have HMW1 : Hid (Mod NoB w X1) := HMW.out.trans hma (fun _ _ h => h)
      clear hacell hma HM HMW
      by_cases hlt : k < rs.length
      · go_upto_block 1 with fail
        go_cut [8] from 24 to 51 (fun tv wx => ∃ t2 : Str, tv = .string ⟨t2.toArray⟩ ∧ t2.length ≤ 700 * (k + 1) ∧ Hid (Mod NoB W1 wx))
        case first =>
          go_wp2_with fail
          refine (HCUT.out _ HMW1.out).mono ?_
          rintro e X2 ⟨vb, rfl, hmb, hib⟩
          obtain ⟨ab, cb, rfl, hbc, hbcm, hbcell⟩ := hib
          obtain ⟨b, o, rfl, hb, hc⟩ := hbcell k hlt
          have HM2 : Hid (Mod NoB W1 X2) := HM1.out.trans hmb (fun _ _ h => h)
          have HMW2 : Hid (Mod NoB w X2) := HMW1.out.trans hmb (fun _ _ h => h)
          have hsl : (rs[k]?.getD []).length ≤ 300 := HRL.out _ (by rw [List.getElem?_eq_getElem hlt]; exact List.getElem_mem hlt)
          have hfl2 := frame_length (100 :: (rs[k]?.getD []))
          rw [List.length_cons] at hfl2
          have HFR := Lib.hid (fun X => RefFrame_calls (100 :: (rs[k]?.getD [])) X (by simp only [List.length_cons]; omega))
          clear hmb hbcell HM1 HMW1
          generalize hsk : rs[k]?.getD [] = s at *
          go_wp2_with fail
          refine (HFR.out _).mono ?_
          rintro e X3 ⟨rfl, hmc⟩
          have HM3 : Hid (Mod NoB W1 X3) := HM2.out.trans hmc (fun _ _ h => h)
          have HMW3 : Hid (Mod NoB w X3) := HMW2.out.trans hmc (fun _ _ h => h)
          generalize frame (100 :: s) = fx at *
          have HSK := Lib.hid hsk
          clear hmc HM2 HMW2 hb hc HFR hsk
          go_upto_if 42 with fail
          go_wp2_with fail
          · refine (HCUT.out _ HMW3.out).mono ?_
            rintro e X4 ⟨vd, rfl, hmd, hid⟩
            obtain ⟨ad, cd, rfl, hdc, hdcm, hdcell⟩ := hid
            obtain ⟨b2, o2, rfl, hb2, hc2⟩ := hdcell k hlt
            rw [HSK.out] at hc2
            have HM4 : Hid (Mod NoB W1 X4) := HM3.out.trans hmd (fun _ _ h => h)
            have hfl3 := frame_length (109 :: 114 :: 111 :: 111 :: 116 :: s)
            simp only [List.length_cons] at hfl3
            have HFR := Lib.hid (fun X => RefFrame_calls (109 :: 114 :: 111 :: 111 :: 116 :: s) X (by simp only [List.length_cons]; omega))
            clear hmd hdcell HM3 HMW3
            go_wp2_with fail
            refine (HFR.out _).mono ?_
            rintro e X5 ⟨rfl, hme⟩
            have HM5 : Hid (Mod NoB W1 X5) := HM4.out.trans hme (fun _ _ h => h)
            generalize frame (109 :: 114 :: 111 :: 111 :: 116 :: s) = fy at *
            clear hme HM4 HFR
            go_wp2_with fail
            go_meet
            exact ⟨t ++ (fx ++ fy), rfl, by simp only [List.length_append]; omega, HM5⟩
          · go_meet
            exact ⟨t ++ fx, rfl, by simp only [List.length_append]; omega, HM3⟩
        case rest =>
          obtain ⟨t2, rfl, ht2, HM9⟩ := hcut
          clear HM1 HMW1
          go_wp2_with fail
          go_roundw
          case rel => exact ⟨k + 1, t2, by omega, by go_num, rfl, ht2, HM9⟩
          case measure => simp [intOf]; omega
      · have hk : k = rs.length := by omega
        clear HMW1
        go_wp2_with fail
        go_meet
        exact ⟨t, rfl, by omega, HM1⟩
  case rest =>
    obtain ⟨t, rfl, htl, HM2⟩ := hcut
    have HD2 := Lib.hid (HD1.out.quiet HM2.out)
    clear HM2 HD1 HCUT
    have hal : (t ++ rest).length ≤ 4500 := by rw [List.length_append]; omega
    go_wp2_with fail
    refine (awake_calls _).mono ?_
    rintro e W3 ⟨rfl, hm3⟩
    have HD3 := Lib.hid (HD2.out.quiet hm3)
    clear hm3 HD2
    go_wp2_with fail
    refine (HFW.out _).mono ?_
    rintro e w' ⟨rfl, rfl⟩
    have hw1 := Write_calls p S1 Dk.fresh logName (t ++ rest) 0 W3 HD3.out.disk fit_fresh (by decide) (by omega)
    rw [read_write1] at hw1
    have HWR := Lib.hid hw1
    clear hw1
    go_wp2_with fail
    refine HWR.out.mono ?_
    rintro e W4 ⟨rfl, hm4, hd4⟩
    have HD4 := Lib.hid (HD3.out.disks hm4 hd4)
    generalize Since S1 W3 W4 = S2 at HD4
    have hf1 := fit_fresh.write logName (t ++ rest) (by omega)
    rw [read_write1] at hf1
    have hw1 := Write_calls p S2 (readDisk1 (t ++ rest)) freshName rest _ W4 HD4.out.disk hf1 (by decide) (by omega)
    rw [read_write2] at hw1
    have HWR2 := Lib.hid hw1
    clear hm4 hd4 hw1 hf1 HWR HD3
    go_wp2_with fail
    refine (HFW.out _).mono ?_
    rintro e w' ⟨rfl, rfl⟩
    go_wp2_with fail
    refine HWR2.out.mono ?_
    rintro e W5 ⟨rfl, hm5, hd5⟩
    have HD5 := Lib.hid (HD4.out.disks hm5 hd5)
    generalize Since S2 W4 W5 = S3 at HD5
    have hsy := Sync_calls p S3 (readDisk2 (t ++ rest) rest) W5 HD5.out.disk
    rw [read_sync] at hsy
    have HSY := Lib.hid hsy
    clear hm5 hd5 hsy HWR2 HD4
    go_wp2_with fail
    refine HSY.out.mono ?_
    rintro e W6 ⟨rfl, hm6, hd6⟩
    have HD6 := Lib.hid (HD5.out.disks hm6 hd6)
    generalize Since S3 W5 W6 = S4 at HD6
    have hcl := Clone_calls p S4 (readDisk (t ++ rest) rest) W6 HD6.out.disk rfl
    have hh0 := HD.first (t ++ rest) rest
    have HDN : Hid ((readDisk (t ++ rest) rest).down = false ∧ (readDisk (t ++ rest) rest).falls = none) := ⟨rfl, rfl⟩
    have HH0 := Lib.hid (hh0.mono (m := 5000) (by omega))
    have HCL := Lib.hid hcl
    clear hm6 hd6 hcl hh0 HSY HD5 HFW
    generalize t ++ rest = A at *
    generalize readDisk A rest = d0 at *
    generalize scan A = r at *
    go_wp2_with fail
    refine HCL.out.mono ?_
    rintro e W7 ⟨q, rfl, hm7, hd7⟩
    have HD7 := Lib.hid (HD6.out.quiet hm7)
    have hop := Open_calls q (Since NoB W6 W7) d0 5000 W7 hd7 (HH0.out.fit (by omega)) (by omega)
    obtain ⟨s0, e0, d1, hfi, hs0⟩ := HH0.out.finds HDN.out.1 HDN.out.2
    rw [hfi] at hop
    have HOP := Lib.hid hop
    have HM7 := Lib.hid hm7
    clear hm7 hd7 hop hfi HCL
    go_wp2_with fail
    refine HOP.out.mono ?_
    rintro e W8 ⟨lw, rfl, hl0, hl8, hm8, hd8⟩
    have hd8' := HD7.out.own hm8 (fun k hk hg => by
      rcases hg with hg | ⟨hg, _⟩
      · exact hg.elim
      · exact ⟨fun hs => by have := (HD6.out.low k hs).2; omega, Nat.le_trans HD6.out.mod.size hg⟩)
    have HD8 := Lib.hid (hd8'.holds (K' := fun k => k = lw) (fun k hk => by subst hk; exact ⟨lt_heap hl8, fun hs => by have := (HD7.out.low _ hs).2; omega⟩))
    have HL8 := Lib.hid hl8
    clear hl0 hl8 hm8 hd8 hd8' HOP HD7 HM7 HD6
    have HINI : Hid (∃ S d, DS w W8 (fun k => k = lw) S p d ∧ HD r d 5000 ∧ d.down = false ∧ d.falls = none) := ⟨_, _, HD8.out, HH0.out, HDN.out.1, HDN.out.2⟩
    generalize d0 = dd at HD8 HH0 HDN
    clear HD8 HH0 HDN
    go_upto_block 2 with fail
    go_cut [] from 85 to 125 (fun wx => Mod NoB w wx ∧ Hid (LogAt wx lw q ⟨s0, [], r.2.1, r.2.2⟩) ∧ Hid (∃ S d, DS w wx (fun k => k = lw) S p d ∧ HD r d 6000 ∧ d.down = false ∧ d.falls = none))
    case first =>
      go_wp2_with fail
      go_loopw [14] (fun i wr => ∃ k : Nat, k ≤ fs.length ∧ k ≤ 6 ∧ i = .int .i64 k ∧ Hid (LogAt wr lw q ⟨s0, [], r.2.1, r.2.2⟩) ∧ Hid (∃ S d, DS w wr (fun k => k = lw) S p d ∧ HD r d (5000 + 2 * k) ∧ d.down = false ∧ d.falls = none)) (fun i _ => fs.length - (intOf i).toNat)
      case atStart => exact ⟨0, by omega, by omega, rfl, HL8, HINI⟩
      case round =>
        obtain ⟨k, hkl, hk6, rfl, HL, HREL⟩ := hrel
        by_cases hlt : k < fs.length ∧ k < 6
        · obtain ⟨hlt, hlt6⟩ := hlt
          obtain ⟨S, d, hV, hP, hdn, hfa⟩ := HREL.out
          obtain ⟨b, o, rfl, hb, e0, e1, e2, _, _⟩ := HFC.out k hlt
          have hM := hV.mod
          rw [← World.cell?_of_block (w := w) (hM.block b hb id)] at e0 e1 e2
          have hbw := Nat.lt_of_lt_of_le hb hM.size
          generalize fs[k] = f at *
          obtain ⟨f0, f1, f2⟩ := f
          simp only at e0 e1 e2
          have HV := Lib.hid hV
          have HP := Lib.hid hP
          have HDN := Lib.hid hdn
          clear hV hP hdn hfa hM HREL HINI
          go_upto_region 19 with fail
          have hn1 : Mod NoB wr (wr.alloc (.cells #[.int .i64 f0, .int .i64 f1, .int .i64 f2] 56)) := (Mod.refl _ _).alloc _
          have hda : (wr.alloc (.cells #[.int .i64 f0, .int .i64 f1, .int .i64 f2] 56)).heap[wr.heap.size]? = some (.cells #[.int .i64 f0, .int .i64 f1, .int .i64 f2] 56 (0, 0)) := heap_alloc_new _ _
          have HV1 := Lib.hid ((HV.out.quiet hn1).holds (K' := fun k => k = lw ∨ k = wr.heap.size) (fun k hk => by
            rcases hk with rfl | rfl
            · exact (HV.out.quiet hn1).apart _ rfl
            · exact ⟨by rw [size_alloc]; omega, HV.out.fresh (Nat.le_refl _)⟩))
          have HL1 := Lib.hid (HL.out.mod hn1 id)
          have HLW : Hid (lw ≠ wr.heap.size) := fun e => by have := lt_heap HL.out; omega
          have HDW : Hid (w.heap.size ≤ wr.heap.size) := HV.out.mod.size
          have HDA := Lib.hid hda
          clear hn1 hda HV HL
          generalize wr.alloc (.cells #[.int .i64 f0, .int .i64 f1, .int .i64 f2] 56) = Wa at *
          generalize wr.heap.size = D at *
          obtain ⟨db, x0, x1, x2, xf⟩ := Fall3.facts HDA.out
          go_upto_if 101 with fail
          go_cut [] from 85 to 125 (fun wx => ∃ a0 : Int, Mod (fun k => k = D) Wa wx ∧ wx.heap[D]? = some (.cells #[.int .i64 a0, .int .i64 f1, .int .i64 f2] 56 (0, 0)))
          case first =>
            by_cases hneg : f0 < 0
            · go_wp2_with fail
              go_meet
              exact ⟨0, Mod.setCell (Mod.refl _ _) _ _ (fun _ => rfl), by simp only [heap_setCell_same, HDA.out, Option.map_some, setAt_cells, List.setIfInBounds_toArray, List.set_cons_zero]⟩
            · go_wp2_with fail
              go_meet
              exact ⟨f0, Mod.refl _ _, HDA.out⟩
          case rest =>
            obtain ⟨a0, hmb, hdb⟩ := hcut
            have HV2 := Lib.hid (HV1.out.own hmb (fun k hk e => by subst e; exact ⟨(HV1.out.apart _ (.inr rfl)).2, HDW.out⟩))
            have HL2 := Lib.hid (HL1.out.mod hmb HLW.out)
            have HDB := Lib.hid hdb
            clear x0 x1 x2 xf db hmb HV1 HL1 HDA
            obtain ⟨db, x0, x1, x2, xf⟩ := Fall3.facts hdb
            clear hdb
            have HCH := Lib.hid (fun X (hm : Mod NoB wc X) => Changes_calls p S d X (HV2.out.quiet hm).disk)
            go_upto_region 21 with fail
            go_cut [] from 85 to 125 (fun wx => ∃ a1 : Int, Mod (fun k => k = D) wc wx ∧ wx.heap[D]? = some (.cells #[.int .i64 a1, .int .i64 f1, .int .i64 f2] 56 (0, 0)))
            case first =>
              go_region_with (go_at_call 35; refine (HCH.out _ ?_).mono ?_; exact (Mod.refl _ _).drew; rintro e w5 ⟨rfl, rfl⟩)
              all_goals (
                go_wp2_with fail
                go_meet
                exact ⟨IntKind.i64.wrap ((d.changes : Int) + a0.tmod 4), Mod.setCell ((Mod.refl _ _).drew) _ _ (fun _ => rfl), by simp only [heap_setCell_same, heap_drew, HDB.out, Option.map_some, setAt_cells, List.setIfInBounds_toArray, List.set_cons_zero]⟩)
            case rest =>
              obtain ⟨a1, hmc, hdc⟩ := hcut
              have HV3 := Lib.hid (HV2.out.own hmc (fun k hk e => by subst e; exact ⟨(HV2.out.apart _ (.inr rfl)).2, HDW.out⟩))
              have HL3 := Lib.hid (HL2.out.mod hmc HLW.out)
              have HDC := Lib.hid hdc
              clear x0 x1 x2 xf db hmc HV2 HL2 HDB HCH
              obtain ⟨db, x0, x1, x2, xf⟩ := Fall3.facts hdc
              clear hdc
              have hma : Mod NoB wc (wc.alloc (.cells #[.int .i64 a1, .int .i64 f1, .int .i64 f2] 56)) := (Mod.refl _ _).alloc _
              have hpl := Plan_calls p S d (.slice (some ⟨wc.heap.size, 0, none⟩) 1 1) (some ⟨a1, f1, f2⟩) (wc.alloc (.cells #[.int .i64 a1, .int .i64 f1, .int .i64 f2] 56)) (HV3.out.quiet hma).disk ⟨wc.heap.size, 1, _, rfl, Nat.le_refl _, by rw [maxLen_eq]; omega, heap_alloc_new _ _, rfl, rfl, rfl, rfl⟩
              have HV4 := Lib.hid (HV3.out.quiet hma)
              have HL4 := Lib.hid (HL3.out.mod hma id)
              have HD4 := Lib.hid ((hma.block D db id).trans HDC.out)
              have HPL := Lib.hid hpl
              clear hpl hma HV3 HL3 HDC
              go_wp2_with fail
              refine HPL.out.mono ?_
              rintro e Y1 ⟨rfl, hm5, hd5⟩
              have HV5 := Lib.hid (HV4.out.disks hm5 hd5)
              have HL5 := Lib.hid (HL4.out.mod hm5 (HV4.out.apart _ (.inl rfl)).2)
              have HD5 := Lib.hid ((HV4.out.keep hm5 (.inr rfl)).trans HD4.out)
              generalize Since S _ Y1 = S5 at HV5
              have hP5 := HP.out.planned (some ⟨a1, f1, f2⟩)
              have hP6 := hP5.openW
              have hop := Open_calls p S5 { d with falls := some ⟨a1, f1, f2⟩ } (5000 + 2 * k) Y1 HV5.out.disk (hP5.fit (by omega)) (by omega)
              have HOP := Lib.hid hop
              have HP6 := Lib.hid hP6
              clear hm5 hd5 hP5 hP6 hop HPL HV4 HL4 HD4 x0 x1 x2 xf db
              generalize openW { d with falls := some ⟨a1, f1, f2⟩ } = ow at *
              go_wp2_with fail
              refine HOP.out.mono ?_
              intro e Y2 hpo
              obtain ⟨⟨lo, tt, xo, rfl⟩, hm6, hd6⟩ := hpo.any
              have HV6 := Lib.hid (HV5.out.disks hm6 hd6)
              have HL6 := Lib.hid (HL5.out.mod hm6 (HV5.out.apart _ (.inl rfl)).2)
              have HD6 := Lib.hid ((HV5.out.keep hm6 (.inr rfl)).trans HD5.out)
              generalize Since S5 Y1 Y2 = S6 at HV6
              generalize ow.2.2.2 = d6 at *
              have hpl := Plan_calls p S6 d6 (.slice none 0 0) none Y2 HV6.out.disk ⟨none, 0, rfl, fun k hk => by cases hk⟩
              have HPL := Lib.hid hpl
              clear hm6 hd6 hpl hpo HOP HV5 HL5 HD5
              go_wp2_with fail
              refine HPL.out.mono ?_
              rintro e Y3 ⟨rfl, hm7, hd7⟩
              have HV7 := Lib.hid (HV6.out.disks hm7 hd7)
              have HL7 := Lib.hid (HL6.out.mod hm7 (HV6.out.apart _ (.inl rfl)).2)
              have HD7 := Lib.hid ((HV6.out.keep hm7 (.inr rfl)).trans HD6.out)
              generalize Since S6 Y2 Y3 = S7 at HV7
              obtain ⟨db, x0, x1, x2, xf⟩ := Fall3.facts HD7.out
              have hP7 := HP6.out.planned none
              have hcr := Crash_calls p S7 { d6 with falls := none } f1 f2 (5000 + 2 * k + 2) Y3 HV7.out.disk hP7.le (by omega)
              have hP8 := (hP7.crash f1 f2).up
              have hfl8 : (({ d6 with falls := none } : Dk).crash f1 f2).falls = none := crash_falls _ _ _
              have HCR := Lib.hid hcr
              have HP8 := Lib.hid hP8
              have HFL8 := Lib.hid hfl8
              clear hm7 hd7 hP7 hcr hP8 hfl8 HPL HV6 HL6 HD6 HP6
              generalize ({ d6 with falls := none } : Dk).crash f1 f2 = d8 at *
              go_wp2_with fail
              refine HCR.out.mono ?_
              rintro e Y4 ⟨rfl, hm8, hd8⟩
              have HV8 := Lib.hid (HV7.out.disks hm8 hd8)
              have HL8 := Lib.hid (HL7.out.mod hm8 (HV7.out.apart _ (.inl rfl)).2)
              generalize Since S7 Y3 Y4 = S8 at HV8
              have HUP := Lib.hid (Up_calls p S8 d8 Y4 HV8.out.disk)
              clear hm8 hd8 HCR HV7 HL7 HD7 x0 x1 x2 xf db
              go_wp2_with fail
              refine HUP.out.mono ?_
              rintro e Y5 ⟨rfl, hm9, hd9⟩
              have HV9 := Lib.hid ((HV8.out.disks hm9 (hd9.mono (fun _ _ h => .inl h))).holds (K' := fun k => k = lw) (fun k hk => (HV8.out.disks hm9 (hd9.mono (fun _ _ h => .inl h))).apart k (.inl hk)))
              have HL9 := Lib.hid (HL8.out.mod hm9 (HV8.out.apart _ (.inl rfl)).2)
              clear hm9 hd9 HUP HV8 HL8
              go_wp2_with fail
              go_roundw
              case rel => exact ⟨k + 1, by omega, by omega, by go_num, HL9, _, _, HV9.out, HP8.out.mono (by omega), rfl, HFL8.out⟩
              case measure => simp [intOf]; omega
        · have HM : Hid (Mod NoB w wr) := by obtain ⟨S, d, hV, _⟩ := HREL.out; exact hV.mod
          have HREL2 : Hid (∃ S d, DS w wr (fun k => k = lw) S p d ∧ HD r d 6000 ∧ d.down = false ∧ d.falls = none) := by
            obtain ⟨S, d, hV, hP, h1, h2⟩ := HREL.out
            exact ⟨S, d, hV, hP.mono (by omega), h1, h2⟩
          clear HREL HINI
          by_cases h1 : k < fs.length
          · have h2 : k = 6 := by omega
            subst h2
            go_wp2_with fail
            go_meet
            exact ⟨HM.out, HL, HREL2⟩
          · go_wp2_with fail
            go_meet
            exact ⟨HM.out, HL, HREL2⟩
    case rest =>
      obtain ⟨hmw, HL, HREL⟩ := hcut
      obtain ⟨S, d, hV, hP, hdn, hfa⟩ := HREL.out
      obtain ⟨s2, e2, d2, hfi, hs2⟩ := hP.finds hdn hfa
      have hop := Open_calls p S d 6000 wc hV.disk (hP.fit (by omega)) (by omega)
      rw [hfi] at hop
      have HOP := Lib.hid hop
      have HV := Lib.hid hV
      clear hop hfi hV hP hmw HREL HINI HL8
      go_wp2_with fail
      refine HOP.out.mono ?_
      rintro e Z1 ⟨l2, rfl, hl0, hl1, hm1, hd1⟩
      have HLW := Lib.hid (HL.out.mod hm1 (HV.out.apart _ rfl).2)
      have HL2 := Lib.hid hl1
      have HMW := Lib.hid ((HV.out.opened hl0 hl1 hm1 hd1).mod)
      have hr1 := Root_calls lw q ⟨s0, [], r.2.1, r.2.2⟩ Z1 HLW.out
      have hr2 := Root_calls l2 p ⟨s2, [], r.2.1, r.2.2⟩ Z1 HL2.out
      have hn1 := Len_calls lw q ⟨s0, [], r.2.1, r.2.2⟩ Z1 HLW.out
      have hn2 := Len_calls l2 p ⟨s2, [], r.2.1, r.2.2⟩ Z1 HL2.out
      rw [top_same s0 [] r.2.1 r.2.2] at hr1
      rw [top_same s2 [] r.2.1 r.2.2] at hr2
      simp only [hs0] at hn1
      simp only [hs2] at hn2
      have HR1 := Lib.hid hr1
      have HR2 := Lib.hid hr2
      have HN1 := Lib.hid hn1
      have HN2 := Lib.hid hn2
      clear hr1 hr2 hn1 hn2 hl0 hl1 hm1 hd1 HOP HV HL hs0 hs2
      rcases htp : (⟨[], [], r.2.1, r.2.2⟩ : Lg).top with ⟨tx, tb⟩
      rw [htp] at HR1 HR2
      clear htp
      go_wp2_with fail
      refine HR1.out.mono ?_
      rintro e w' ⟨rfl, rfl⟩
      go_wp2_with fail
      refine HR2.out.mono ?_
      rintro e w' ⟨rfl, rfl⟩
      go_wp2_with fail
      refine HN1.out.mono ?_
      rintro e w' ⟨rfl, rfl⟩
      go_wp2_with fail
      refine HN2.out.mono ?_
      rintro e w' ⟨rfl, rfl⟩
      go_wp2_with fail
      go_ret
      exact ⟨rfl, HMW.out⟩

end Go.Proofs.Ytgofngilfdnakaa
