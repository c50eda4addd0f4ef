/-
  This text proves what wal.Replace does to a log over a disk: for records and a root that are not too long.
-/
import Derived.Test.YtgofngilfdnakaaLawT
import Derived.Test.YtgofngilfdnakaaWal4
namespace Go.Proofs.Ytgofngilfdnakaa
open Go Go.RowKit
attribute [local go_sem] over_cell over_frozen lt_over le_over noB loudUpon ByteArray.mk_append_mk ByteArray.extract_mk drop_full

/-- A log is laid anew. -/
def Lg.replace (g : Lg) (d : Dk) (l : List Str) (root : Str) : Int × Lg × Dk :=
  let t := laidText l root
  if (d.write freshName t).1 ≠ 0 then ((d.write freshName t).1, { g with wait := [] }, (d.write freshName t).2)
  else
    let d1 := (d.write freshName t).2
    if d1.sync.1 ≠ 0 then (d1.sync.1, { g with wait := [] }, d1.sync.2)
    else
      let d2 := d1.sync.2
      if (d2.move freshName logName).1 ≠ 0 then ((d2.move freshName logName).1, { g with wait := [] }, (d2.move freshName logName).2)
      else
        let d3 := (d2.move freshName logName).2
        if d3.sync.1 ≠ 0 then (d3.sync.1, { g with wait := [] }, d3.sync.2) else (0, ⟨t, [], root, 1⟩, d3.sync.2)

/-- A disk and a log, since w. -/
structure LS (w wr : World) (S : Nat → Prop) (p l : Nat) (d : Dk) (g : Lg) : Prop where
  mod : Mod (fun k => S k ∨ k = l) w wr
  disk : Disk wr p (Since S w wr) d
  log : LogAt wr l p g
  l0 : l < w.heap.size
  sl : ¬ S l
theorem LS.nl {w wr : World} {S : Nat → Prop} {p l : Nat} {d : Dk} {g : Lg} (h : LS w wr S p l d g) : ¬ Since S w wr l := fun e => by
  rcases e with e | ⟨e, _⟩
  · exact h.sl e
  · have := h.l0; omega
theorem LS.logs {w wr wr' : World} {S : Nat → Prop} {p l : Nat} {d : Dk} {g g' : Lg} (h : LS w wr S p l d g) (hm : Mod (fun k => k = l) wr wr') (hl : LogAt wr' l p g') : LS w wr' S p l d g' :=
  ⟨h.mod.trans hm (fun _ _ e => .inr e), (h.disk.mod hm (fun k hk e => h.nl (e ▸ hk))).mono (fun k hk e => by
    rcases e with e | ⟨e, _⟩
    · exact .inl e
    · exact .inr ⟨e, hk⟩), hl, h.l0, h.sl⟩
theorem LS.quiet {w wr wr' : World} {S : Nat → Prop} {p l : Nat} {d : Dk} {g : Lg} (h : LS w wr S p l d g) (hm : Mod NoB wr wr') : LS w wr' S p l d g :=
  h.logs (hm.mono (noB_sub _ _)) (h.log.mod hm id)
theorem LS.disks {w wr wr' : World} {S : Nat → Prop} {p l : Nat} {d d' : Dk} {g : Lg} (h : LS w wr S p l d g) (hm : Mod (Since S w wr) wr wr') (hd : Disk wr' p (Since (Since S w wr) wr wr') d') : LS w wr' S p l d' g :=
  ⟨h.mod.trans hm (fun k hk e => by
    rcases e with e | ⟨e, _⟩
    · exact .inl e
    · omega), hd.mono (fun k hk e => by
    rcases e with (e | ⟨e, _⟩) | ⟨e, _⟩
    · exact .inl e
    · exact .inr ⟨e, hk⟩
    · exact .inr ⟨Nat.le_trans h.mod.size e, hk⟩), h.log.mod hm h.nl, h.l0, h.sl⟩

set_option maxRecDepth 100000 in
set_option maxHeartbeats 3200000 in
theorem Replace_calls (l p : Nat) (S : Nat → Prop) (d : Dk) (g : Lg) (v : Value) (rs : List Str) (root : Str) (N : Nat) (w : World) (hl : LogAt w l p g) (hd : Disk w p S d) (hSl : ¬ S l) (hF : Fit d N) (hv : StrsIn w v rs)
    (hn : rs.length ≤ 1000) (hs : ∀ s ∈ rs, s.length ≤ 1000) (hr : root.length ≤ 1000) (hN : N + 2100000 ≤ 400000000) :
    Calls Try.prog 42 #[.pointer (some ⟨l, 0, none⟩), v, .string ⟨root.toArray⟩] w fun e w' => e = .returned (.int .i64 (g.replace d rs root).1) ∧ LS w w' S p l (g.replace d rs root).2.2 (g.replace d rs root).2.1 := by
  have hls : LS w w S p l d g := ⟨Mod.refl _ _, hd.mono (fun _ _ h => .inl h), hl, lt_heap hl, hSl⟩
  obtain ⟨a, cap, rfl, hlc, hcm, hcell⟩ := hv
  rw [maxLen_eq] at hcm
  have HC := Lib.hid hcell
  have HS := Lib.hid hs
  have HLS := Lib.hid hls
  have HF := Lib.hid hF
  have hdl := datas_le rs 1000 hs
  have hdb : (datas rs).length ≤ 2000000 := by
    have := Nat.mul_le_mul_right (1000 + 9) hn
    omega
  clear hcell hs hls hdl hl hd hSl hF
  go_enter Try.func42, Try.ntmps42
  go_wp2_with fail
  go_loopw [7, 18] (fun tx i wr => ∃ k : Nat, k ≤ rs.length ∧ i = .int .i64 k ∧ tx = .string ⟨(datas (rs.take k)).toArray⟩ ∧ Hid (Mod NoB w wr)) (fun _ i _ => rs.length - (intOf i).toNat)
  case atStart => exact ⟨0, by omega, rfl, rfl, Mod.refl _ _⟩
  case round =>
    obtain ⟨k, hkl, rfl, rfl, HM⟩ := hrel
    by_cases hlt : k < rs.length
    · obtain ⟨b, o, rfl, hb, hc⟩ := HC.out k hlt
      have hcw : wr.cell? ⟨b, o + k, none⟩ = some (.string ⟨(rs[k]?.getD []).toArray⟩) := (World.cell?_of_block (w := w) (HM.out.block b hb id)).trans hc
      have hbw := Nat.lt_of_lt_of_le hb HM.out.size
      have hsl : (rs[k]?.getD []).length ≤ 1000 := HS.out _ (by rw [List.getElem?_eq_getElem hlt]; exact List.getElem_mem hlt)
      have htk : datas (rs.take (k + 1)) = datas (rs.take k) ++ frame (100 :: (rs[k]?.getD [])) := by
        rw [List.take_succ_eq_append_getElem hlt, datas_append, List.getElem?_eq_getElem hlt]; simp [datas]
      have hd1 : (datas (rs.take k)).length ≤ 2000000 := by
        have := datas_append (rs.take k) (rs.drop k)
        rw [List.take_append_drop] at this
        have h2 := congrArg List.length this
        rw [List.length_append] at h2
        omega
      generalize rs[k]?.getD [] = s at *
      have hfl2 := frame_length (100 :: s)
      rw [List.length_cons] at hfl2
      have HFR := Lib.hid (fun X => Frame_calls (100 :: s) X (by simp only [List.length_cons]; omega))
      have HTK := Lib.hid htk
      clear htk hc
      go_wp2_with fail
      refine (HFR.out _).mono ?_
      rintro e X ⟨rfl, hmc⟩
      have HM3 : Hid (Mod NoB w X) := HM.out.trans hmc (fun _ _ h => h)
      clear hmc HM
      go_wp2_with fail
      go_roundw
      case rel => exact ⟨k + 1, by omega, by go_num, by rw [HTK.out], HM3⟩
      case measure => simp [intOf]; omega
    · have hk : k = rs.length := by omega
      subst hk
      rw [List.take_length]
      have hfr := frame_length (109 :: root)
      rw [List.length_cons] at hfr
      have HFR := Lib.hid (fun X => Frame_calls (109 :: root) X (by simp only [List.length_cons]; omega))
      go_wp2_with fail
      refine (HFR.out _).mono ?_
      rintro e X ⟨rfl, hmc⟩
      have HM5 : Hid (Mod NoB w X) := HM.out.trans hmc (fun _ _ h => h)
      have hlX := (HLS.out.quiet HM5.out).log
      obtain ⟨lb, c0, c1, c2, c3, c4, cf⟩ := hlX.facts
      have hll : (datas rs ++ frame (109 :: root)) = laidText rs root := rfl
      have htx : (laidText rs root).length ≤ 2010000 := by simp only [laidText, List.length_append, frame_length, List.length_cons]; omega
      have HLX := Lib.hid hlX
      clear hmc HFR HM hlX
      go_wp2_with fail
      have hX : Mod (fun k => k = l) X (X.setCell ⟨l, 2, none⟩ (.string ⟨#[]⟩)) := Mod.setCell (Mod.refl _ _) _ _ (fun _ => rfl)
      have hlw : LogAt (X.setCell ⟨l, 2, none⟩ (.string ⟨#[]⟩)) l p { g with wait := [] } := by
        show _ = _
        rw [heap_setCell_same, HLX.out]
        simp only [Lg.cells, Option.map_some, setAt_cells, List.setIfInBounds_toArray, List.set_cons_zero, List.set_cons_succ]
      have HL1 := Lib.hid ((HLS.out.quiet HM5.out).logs hX hlw)
      have HRP : Hid (∀ r, g.replace d rs root = r → g.replace d rs root = r) := fun _ h => h
      generalize X.setCell ⟨l, 2, none⟩ (.string ⟨#[]⟩) = W at *
      clear hX hlw c0 c1 c2 c3 c4 cf lb HLX HLS HM5
      have hf1 := HF.out.write freshName (laidText rs root) (by omega)
      have hw := Write_calls p (Since S w W) d freshName (laidText rs root) N W HL1.out.disk HF.out (by decide) (by omega)
      generalize hr1 : d.write freshName (laidText rs root) = r1 at hw hf1
      obtain ⟨e1, d1⟩ := r1
      simp only at hw hf1
      have HR1 := Lib.hid hr1
      have HW := Lib.hid hw
      have HF1 := Lib.hid hf1
      clear hr1 hw hf1 hll
      refine HW.out.mono ?_
      rintro e W2 ⟨rfl, hm2, hd2⟩
      have HL2 := Lib.hid (HL1.out.disks hm2 hd2)
      clear hm2 hd2 HW HL1
      by_cases he : e1 = 0
      · subst he
        obtain ⟨lb, c0, c1, c2, c3, c4, cf⟩ := HL2.out.log.facts
        have hf2 := HF1.out.sync
        have hw := Sync_calls p (Since S w W2) d1 W2 HL2.out.disk
        generalize hr2 : d1.sync = r2 at hw hf2
        obtain ⟨e2, d2⟩ := r2
        simp only at hw hf2
        have HR2 := Lib.hid hr2
        have HW := Lib.hid hw
        have HF2 := Lib.hid hf2
        clear hr2 hw hf2
        go_wp2_with fail
        refine HW.out.mono ?_
        rintro e W3 ⟨rfl, hm3, hd3⟩
        have HL3 := Lib.hid (HL2.out.disks hm3 hd3)
        clear hm3 hd3 HW HL2 c0 c1 c2 c3 c4 cf lb
        by_cases he : e2 = 0
        · subst he
          obtain ⟨lb, c0, c1, c2, c3, c4, cf⟩ := HL3.out.log.facts
          have hf3 := HF2.out.move freshName logName (by omega)
          have hw := Move_calls p (Since S w W3) d2 freshName logName _ W3 HL3.out.disk HF2.out (by decide) (by decide)
          generalize hr3 : d2.move freshName logName = r3 at hw hf3
          obtain ⟨e3, d3⟩ := r3
          simp only at hw hf3
          have HR3 := Lib.hid hr3
          have HW := Lib.hid hw
          have HF3 := Lib.hid hf3
          clear hr3 hw hf3
          go_wp2_with fail
          refine HW.out.mono ?_
          rintro e W4 ⟨rfl, hm4, hd4⟩
          have HL4 := Lib.hid (HL3.out.disks hm4 hd4)
          clear hm4 hd4 HW HL3 c0 c1 c2 c3 c4 cf lb
          by_cases he : e3 = 0
          · subst he
            obtain ⟨lb, c0, c1, c2, c3, c4, cf⟩ := HL4.out.log.facts
            have hw := Sync_calls p (Since S w W4) d3 W4 HL4.out.disk
            generalize hr4 : d3.sync = r4 at hw
            obtain ⟨e4, d4⟩ := r4
            simp only at hw
            have HR4 := Lib.hid hr4
            have HW := Lib.hid hw
            clear hr4 hw
            go_wp2_with fail
            refine HW.out.mono ?_
            rintro e W5 ⟨rfl, hm5, hd5⟩
            have HL5 := Lib.hid (HL4.out.disks hm5 hd5)
            clear hm5 hd5 HW HL4 c0 c1 c2 c3 c4 cf lb
            by_cases he : e4 = 0
            · subst he
              have hres : g.replace d rs root = (0, ⟨laidText rs root, [], root, 1⟩, d4) := by
                unfold Lg.replace
                simp only [HR1.out, HR2.out, HR3.out, HR4.out, ne_eq, not_true_eq_false, if_false]
              have HRES := Lib.hid hres
              obtain ⟨lb, c0, c1, c2, c3, c4, cf⟩ := HL5.out.log.facts
              clear hres
              go_wp2_with fail
              go_ret
              rw [HRES.out]
              have hm : Mod (fun k => k = l) W5 (((W5.setCell ⟨l, 1, none⟩ (.string ⟨(laidText rs root).toArray⟩)).setCell ⟨l, 3, none⟩ (.string ⟨root.toArray⟩)).setCell ⟨l, 4, none⟩ (.int .i64 1)) := by
                iterate 3 refine Mod.setCell ?_ _ _ (fun _ => rfl)
                exact Mod.refl _ _
              refine ⟨rfl, HL5.out.logs hm ?_⟩
              show _ = _
              simp only [heap_setCell_same]
              rw [HL5.out.log]
              simp only [Lg.cells, Option.map_some, setAt_cells, List.setIfInBounds_toArray, List.set_cons_zero, List.set_cons_succ]
              rfl
            · have he' : (e4 != 0) = true := by simpa using he
              have hres : g.replace d rs root = (e4, { g with wait := [] }, d4) := by
                unfold Lg.replace
                simp only [HR1.out, HR2.out, HR3.out, HR4.out, ne_eq, not_true_eq_false, if_false]
                rw [if_pos he]
              have HRES := Lib.hid hres
              have HE := Lib.hid he
              clear hres he
              go_wp2_with fail
              go_ret
              rw [HRES.out]
              exact ⟨rfl, HL5.out⟩
          · have he' : (e3 != 0) = true := by simpa using he
            have hres : g.replace d rs root = (e3, { g with wait := [] }, d3) := by
              unfold Lg.replace
              simp only [HR1.out, HR2.out, HR3.out, ne_eq, not_true_eq_false, if_false]
              rw [if_pos he]
            have HRES := Lib.hid hres
            have HE := Lib.hid he
            clear hres he
            go_wp2_with fail
            go_ret
            rw [HRES.out]
            exact ⟨rfl, HL4.out⟩
        · have he' : (e2 != 0) = true := by simpa using he
          have hres : g.replace d rs root = (e2, { g with wait := [] }, d2) := by
            unfold Lg.replace
            simp only [HR1.out, HR2.out, ne_eq, not_true_eq_false, if_false]
            rw [if_pos he]
          have HRES := Lib.hid hres
          have HE := Lib.hid he
          clear hres he
          go_wp2_with fail
          go_ret
          rw [HRES.out]
          exact ⟨rfl, HL3.out⟩
      · have he' : (e1 != 0) = true := by simpa using he
        have hres : g.replace d rs root = (e1, { g with wait := [] }, d1) := by
          unfold Lg.replace
          simp only [HR1.out, ne_eq]
          rw [if_pos he]
        have HRES := Lib.hid hres
        have HE := Lib.hid he
        clear hres he
        go_wp2_with fail
        go_ret
        rw [HRES.out]
        exact ⟨rfl, HL2.out⟩

end Go.Proofs.Ytgofngilfdnakaa
