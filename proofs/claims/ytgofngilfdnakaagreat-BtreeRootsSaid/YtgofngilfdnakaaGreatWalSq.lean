/-
  This text proves what wal.Open does, within bounds.
-/
import Derived.Test.YtgofngilfdnakaaGreatWalq

namespace Go.Proofs.YtgofngilfdnakaaGreat
open Go Go.RowKit
attribute [local go_sem] over_cell over_frozen lt_over le_over noB loudUpon ByteArray.mk_append_mk ByteArray.extract_mk drop_full

theorem Since.mono {S T : Nat → Prop} {a b c : World} (h1 : a.heap.size ≤ b.heap.size) (hT : ∀ k, k < b.heap.size → T k → S k ∨ a.heap.size ≤ k) : ∀ k, k < c.heap.size → Since T b c k → Since S a c k := fun k hk h => by
  rcases h with h | ⟨h2, h3⟩
  · by_cases hb : k < b.heap.size
    · rcases hT k hb h with h | h
      · exact .inl h
      · exact .inr ⟨h, hk⟩
    · exact .inr ⟨by omega, hk⟩
  · exact .inr ⟨Nat.le_trans h1 h2, hk⟩
theorem Dk.crash_room (d : Dk) (k t : Int) : (d.crash k t).room = d.room := by unfold Dk.crash; split <;> rfl
theorem Dk.commit_room (d : Dk) (c : Chg) : (d.commit c).2.room = d.room := by
  unfold Dk.commit
  split
  · split
    · rw [Dk.crash_room]
    · rfl
  · rfl
theorem Fit.commit {d : Dk} {N : Nat} (h : Fit d N) (c : Chg) (hc : c.kind = 2 → c.name ≠ c.to) (hN : N + c.s.length + 1 ≤ 400000000) : Fit (d.commit c).2 (N + c.s.length + 1) :=
  ⟨h.le.commit c hc, hN, by rw [Dk.commit_room]; exact h.low, by rw [Dk.commit_room]; exact h.high⟩
theorem Fit.mono {d : Dk} {N M : Nat} (h : Fit d N) (h1 : N ≤ M) (h2 : M ≤ 400000000) : Fit d M := ⟨h.le.mono h1, h2, h.low, h.high⟩
theorem Fit.remove {d : Dk} {N : Nat} (h : Fit d N) (n : Str) (hN : N + 1 ≤ 400000000) : Fit (d.remove n).2 (N + 1) := by
  unfold Dk.remove
  split
  · exact h.mono (by omega) hN
  · exact h.commit ⟨3, n, [], [], 0⟩ (by simp) (by simpa using hN)
theorem Fit.truncate {d : Dk} {N : Nat} (h : Fit d N) (n : Str) (k : Int) (hN : N + 1 ≤ 400000000) : Fit (d.truncate n k).2 (N + 1) := by
  unfold Dk.truncate
  split
  · exact h.mono (by omega) hN
  · split
    · exact h.mono (by omega) hN
    · exact h.commit ⟨4, n, [], [], k⟩ (by simp) (by simpa using hN)
theorem Fit.sync {d : Dk} {N : Nat} (h : Fit d N) : Fit d.sync.2 N := by
  refine ⟨h.le.sync, h.most, ?_, ?_⟩
  · unfold Dk.sync; split <;> exact h.low
  · unfold Dk.sync; split <;> exact h.high
theorem Dk.read_length (d : Dk) (n : Str) : (d.read n).1.length ≤ d.now.size := by
  unfold Dk.read
  split
  · simp
  · exact d.now.val_le n

/-- What opening leaves. -/
def OpenPost (p : Nat) (S : Nat → Prop) (w : World) (r : Option Lg × Int × Int × Dk) (e : Ending) (w' : World) : Prop :=
  match r with
  | (none, t, x, d) => e = .returned (.tuple #[.pointer none, .int .i64 t, .int .i64 x]) ∧ Mod S w w' ∧ Disk w' p (Since S w w') d
  | (some g, t, x, d) => ∃ l, e = .returned (.tuple #[.pointer (some ⟨l, 0, none⟩), .int .i64 t, .int .i64 x]) ∧ w.heap.size ≤ l ∧ LogAt w' l p g ∧ Mod S w w' ∧ Disk w' p (fun k => Since S w w' k ∧ k ≠ l) d

theorem sync_after {p l : Nat} {S T : Nat → Prop} {d : Dk} {g : Lg} {w X : World} (hm : Mod S w X) (hl : LogAt X l p g) (hd : Disk X p T d) (hT : ∀ k, k < X.heap.size → T k → (S k ∨ w.heap.size ≤ k) ∧ k ≠ l) :
    Calls Tryz.prog 101 #[.pointer (some ⟨p, 0, none⟩)] X fun e w' => e = .returned (.int .i64 d.sync.1) ∧ Mod S w w' ∧ LogAt w' l p g ∧ Disk w' p (fun k => Since S w w' k ∧ k ≠ l) d.sync.2 := by
  have hll := lt_heap hl
  refine (Sync_calls p (fun k => T k ∧ k < X.heap.size) d X (hd.mono (fun k hk h => ⟨h, hk⟩))).mono ?_
  rintro e w' ⟨rfl, h1, h2⟩
  refine ⟨rfl, hm.trans h1 (fun k hk h => ?_), hl.mod h1 (fun h => (hT l h.2 h.1).2 rfl), h2.mono (fun k hk h => ?_)⟩
  · rcases (hT k h.2 h.1).1 with h | h
    · exact h
    · omega
  · rcases h with ⟨h3, h4⟩ | ⟨h3, h4⟩
    · refine ⟨?_, (hT k h4 h3).2⟩
      rcases (hT k h4 h3).1 with h | h
      · exact .inl h
      · exact .inr ⟨h, hk⟩
    · exact ⟨.inr ⟨Nat.le_trans hm.size h3, h4⟩, by omega⟩

set_option maxRecDepth 100000 in
set_option maxHeartbeats 3200000 in
theorem Open_calls (p : Nat) (S : Nat → Prop) (d : Dk) (N : Nat) (w : World) (hd : Disk w p S d) (hF : Fit d N) (hN : N + 2 ≤ 400000000) :
    Calls Tryz.prog 63 #[.pointer (some ⟨p, 0, none⟩)] w (OpenPost p S w (openW d)) := by
  have HDEAD := Lib.hid (Dead_calls p S d w hd)
  have HD := Lib.hid hd
  have HF := Lib.hid hF
  clear hd hF
  unfold openW
  by_cases hdn : d.down = true
  · rw [if_pos hdn]
    rw [hdn] at HDEAD
    clear hdn
    go_enter Tryz.func63, Tryz.ntmps63
    go_wp2_with fail
    refine HDEAD.out.mono ?_
    rintro e w' ⟨rfl, rfl⟩
    go_wp2_with fail
    go_ret3
    exact ⟨rfl, Mod.refl _ _, HD.out.mono (fun _ _ h => .inl h)⟩
  · rw [if_neg hdn]
    have hdn : d.down = false := by simpa using hdn
    rw [hdn] at HDEAD
    clear hdn
    have HRD := Lib.hid (Read_calls p S d freshName w HD.out (by decide))
    have hrl := d.read_length freshName
    generalize hr : d.read freshName = r at *
    obtain ⟨s0, e0⟩ := r
    have HR := Lib.hid hr; clear hr
    simp only at HRD hrl ⊢
    by_cases he : e0 = 0
    · subst he
      simp only [if_true]
      have HRM := Lib.hid (fun X hX => Remove_calls p S d freshName N X (HD.out.mod (w' := X) hX (fun (k : Nat) _ => (id : ¬ NoB k))) HF.out (by decide))
      have hfit2 := HF.out.remove freshName (by omega)
      generalize hq : d.remove freshName = q at *
      obtain ⟨e3, d3⟩ := q
      have HQ := Lib.hid hq; clear hq
      simp only at hfit2 HRM ⊢
      have HF3 := Lib.hid hfit2; clear hfit2
      by_cases he3 : e3 = 0
      · subst he3
        rw [if_neg (by simp)]
        unfold openB
        have hsl := d3.read_length logName
        have hle := (HF3.out).le.now_size
        have hmost := (HF3.out).most
        generalize hr2 : d3.read logName = r at *
        obtain ⟨s1, e1⟩ := r
        have HR2 := Lib.hid hr2; clear hr2
        simp only at hsl ⊢
        by_cases he1 : e1 = 0
        · subst he1
          rw [if_neg (by simp)]
          have hsc := scan_bounds s1
          have HSC := Lib.hid (fun X => scan_calls s1 (by omega) X)
          generalize hrs : scan s1 = r at *
          obtain ⟨en, rt, mk⟩ := r
          have HRS := Lib.hid hrs; clear hrs
          simp only at hsc HSC ⊢
          obtain ⟨b1, b2, b3⟩ := hsc
          have hs1 : s1.length ≤ 400000000 := by omega
          clear hsl hle hmost
          by_cases hlt : en < s1.length
          · rw [if_pos hlt]
            have HTR := Lib.hid (fun X T (hX : Disk X p T d3) => Truncate_calls p T d3 logName (en : Nat) (N + 1) X hX (HF3.out) (by decide))
            generalize hqt : d3.truncate logName (en : Nat) = q at *
            obtain ⟨e4, d4⟩ := q
            have HQT := Lib.hid hqt; clear hqt
            simp only at HTR ⊢
            by_cases he4 : e4 = 0
            · subst he4
              rw [if_neg (by simp)]
              go_enter Tryz.func63, Tryz.ntmps63
              go_wp2_with fail
              refine HDEAD.out.mono ?_
              rintro e w' ⟨rfl, rfl⟩
              go_wp2_with fail
              refine HRD.out.mono ?_
              rintro e X0 ⟨rfl, hm0⟩
              have HM0 := Lib.hid hm0
              go_wp2_with fail
              refine (HRM.out X0 HM0.out).mono ?_
              rintro e X ⟨rfl, hmr, hdr⟩
              have HMR : Hid (Mod S w X) := (HM0.out.mono (noB_sub S _)).trans hmr (fun _ _ h => h)
              have HDR : Hid (Disk X p (Since S w X) d3) := hdr.mono (fun k _ h => by
                rcases h with h | ⟨h, h'⟩
                · exact .inl h
                · exact .inr ⟨Nat.le_trans hm0.size h, h'⟩)
              clear hm0 hmr hdr
              go_wp2_with fail
              have HXD : Hid (Disk X p (fun k => Since S w X k ∧ k < X.heap.size) d3) := HDR.out.mono (fun k hk h => ⟨h, hk⟩)
              have HXM := HMR
              go_wp2_with fail
              have hm1 : Mod NoB X (X.alloc (.cells #[.pointer (some ⟨p, 0, none⟩), .string ⟨#[]⟩, .string ⟨#[]⟩, .string ⟨#[]⟩, .int .i64 0] 168)) := (Mod.refl _ _).alloc _
              have hrd := Read_calls p _ d3 logName _ (HXD.out.mod hm1 (fun _ _ => id)) (by decide)
              rw [HR2.out] at hrd
              refine hrd.mono ?_
              rintro e X2 ⟨rfl, hm2⟩
              have hl2 : LogAt X2 X.heap.size p ⟨[], [], [], 0⟩ := (hm2.block _ (by rw [size_alloc]; omega) id).trans (heap_alloc_new _ _)
              have hd2 : Disk X2 p (fun k => Since S w X k ∧ k < X.heap.size) d3 := HXD.out.mod (hm1.trans hm2 (fun _ _ h => h)) (fun _ _ => id)
              have hsz2 : X.heap.size + 1 ≤ X2.heap.size := by have := hm2.size; rw [size_alloc] at this; exact this
              have HM2 : Hid (Mod S w X2) := (HXM.out.trans hm1 (noB_sub _ _)).trans hm2 (noB_sub _ _)
              have HL2 := Lib.hid hl2
              have HD2 := Lib.hid hd2
              obtain ⟨bl, k0, k1, k2, k3, k4, kf⟩ := hl2.facts
              clear hm1 hm2 hl2 hd2 hrd
              go_wp2_with fail
              refine (HSC.out _).mono ?_
              rintro e X3 ⟨rfl, hm3⟩
              have hl3 := HL2.out.mod hm3 id
              have HD3 := Lib.hid (HD2.out.mod hm3 (fun _ _ => id))
              have HM3 : Hid (Mod S w X3) := HM2.out.trans hm3 (noB_sub _ _)
              have hsz3 := Nat.le_trans hsz2 hm3.size
              have HL3 := Lib.hid hl3
              obtain ⟨bl3, m0, m1, m2, m3, m4, mf⟩ := hl3.facts
              clear hm3 hl3 k0 k1 k2 k3 k4 kf bl
              have hmz : Mod (fun k => k = X.heap.size) X3 (((X3.setCell ⟨X.heap.size, 1, none⟩ (.string ⟨(s1.take en).toArray⟩)).setCell ⟨X.heap.size, 3, none⟩ (.string ⟨rt.toArray⟩)).setCell ⟨X.heap.size, 4, none⟩ (.int .i64 mk)) :=
                Mod.setCell (Mod.setCell (Mod.setCell (Mod.refl (fun k => k = X.heap.size) X3) _ _ (fun _ => rfl)) _ _ (fun _ => rfl)) _ _ (fun _ => rfl)
              have HL4 : Hid (LogAt (((X3.setCell ⟨X.heap.size, 1, none⟩ (.string ⟨(s1.take en).toArray⟩)).setCell ⟨X.heap.size, 3, none⟩ (.string ⟨rt.toArray⟩)).setCell ⟨X.heap.size, 4, none⟩ (.int .i64 mk)) X.heap.size p ⟨s1.take en, [], rt, mk⟩) := by
                show _ = _
                simp only [heap_setCell_same]
                rw [HL3.out]
                simp only [Lg.cells, Option.map_some, setAt_cells, List.setIfInBounds_toArray, List.set_cons_zero, List.set_cons_succ]
              have hxs := HXM.out.size
              have HM4 : Hid (Mod S w (((X3.setCell ⟨X.heap.size, 1, none⟩ (.string ⟨(s1.take en).toArray⟩)).setCell ⟨X.heap.size, 3, none⟩ (.string ⟨rt.toArray⟩)).setCell ⟨X.heap.size, 4, none⟩ (.int .i64 mk))) := HM3.out.trans hmz (fun k hk h => by omega)
              have HD4 : Hid (Disk (((X3.setCell ⟨X.heap.size, 1, none⟩ (.string ⟨(s1.take en).toArray⟩)).setCell ⟨X.heap.size, 3, none⟩ (.string ⟨rt.toArray⟩)).setCell ⟨X.heap.size, 4, none⟩ (.int .i64 mk)) p (fun k => Since S w X k ∧ k < X.heap.size) d3) := HD3.out.mod hmz (fun k h e => by have := h.2; omega)
              have HT4 : Hid (∀ k, k < (((X3.setCell ⟨X.heap.size, 1, none⟩ (.string ⟨(s1.take en).toArray⟩)).setCell ⟨X.heap.size, 3, none⟩ (.string ⟨rt.toArray⟩)).setCell ⟨X.heap.size, 4, none⟩ (.int .i64 mk)).heap.size → (Since S w X k ∧ k < X.heap.size) → (S k ∨ w.heap.size ≤ k) ∧ k ≠ X.heap.size) := fun k _ h => by
                refine ⟨?_, by omega⟩
                rcases h.1 with h | ⟨h, _⟩
                · exact .inl h
                · exact .inr h
              have hsz4 := hmz.size
              clear hmz
              go_wp2_with fail
              refine (HTR.out _ _ HD4.out).mono ?_
              rintro e X5 ⟨rfl, hm5, hd5⟩
              have HM5 : Hid (Mod S w X5) := HM4.out.trans hm5 (fun k hk h => by
                rcases h.1 with h | ⟨h, _⟩
                · exact h
                · omega)
              have HL5 := Lib.hid (HL4.out.mod hm5 (fun h => by have := h.2; omega))
              have HD5 := Lib.hid hd5
              have HT5 : Hid (∀ k, k < X5.heap.size → Since (fun k => Since S w X k ∧ k < X.heap.size) (((X3.setCell ⟨X.heap.size, 1, none⟩ (.string ⟨(s1.take en).toArray⟩)).setCell ⟨X.heap.size, 3, none⟩ (.string ⟨rt.toArray⟩)).setCell ⟨X.heap.size, 4, none⟩ (.int .i64 mk)) X5 k → (S k ∨ w.heap.size ≤ k) ∧ k ≠ X.heap.size) := fun k _ h => by
                rcases h with h | ⟨h, _⟩
                · refine ⟨?_, by omega⟩
                  rcases h.1 with h | ⟨h, _⟩
                  · exact .inl h
                  · exact .inr h
                · exact ⟨.inr (by omega), by omega⟩
              clear hm5 hd5
              go_wp2_with fail
              refine (sync_after HM5.out HL5.out HD5.out HT5.out).mono ?_
              rintro e w' ⟨rfl, q1, q2, q3⟩
              go_wp2_with fail
              go_ret3
              exact ⟨X.heap.size, rfl, HXM.out.size, q2, q1, q3⟩
            · rw [if_pos he4]
              have he4' : (e4 != 0) = true := by simpa using he4
              have HE4 := Lib.hid he4; clear he4
              go_enter Tryz.func63, Tryz.ntmps63
              go_wp2_with fail
              refine HDEAD.out.mono ?_
              rintro e w' ⟨rfl, rfl⟩
              go_wp2_with fail
              refine HRD.out.mono ?_
              rintro e X0 ⟨rfl, hm0⟩
              have HM0 := Lib.hid hm0
              go_wp2_with fail
              refine (HRM.out X0 HM0.out).mono ?_
              rintro e X ⟨rfl, hmr, hdr⟩
              have HMR : Hid (Mod S w X) := (HM0.out.mono (noB_sub S _)).trans hmr (fun _ _ h => h)
              have HDR : Hid (Disk X p (Since S w X) d3) := hdr.mono (fun k _ h => by
                rcases h with h | ⟨h, h'⟩
                · exact .inl h
                · exact .inr ⟨Nat.le_trans hm0.size h, h'⟩)
              clear hm0 hmr hdr
              go_wp2_with fail
              have HXD : Hid (Disk X p (fun k => Since S w X k ∧ k < X.heap.size) d3) := HDR.out.mono (fun k hk h => ⟨h, hk⟩)
              have HXM := HMR
              go_wp2_with fail
              have hm1 : Mod NoB X (X.alloc (.cells #[.pointer (some ⟨p, 0, none⟩), .string ⟨#[]⟩, .string ⟨#[]⟩, .string ⟨#[]⟩, .int .i64 0] 168)) := (Mod.refl _ _).alloc _
              have hrd := Read_calls p _ d3 logName _ (HXD.out.mod hm1 (fun _ _ => id)) (by decide)
              rw [HR2.out] at hrd
              refine hrd.mono ?_
              rintro e X2 ⟨rfl, hm2⟩
              have hl2 : LogAt X2 X.heap.size p ⟨[], [], [], 0⟩ := (hm2.block _ (by rw [size_alloc]; omega) id).trans (heap_alloc_new _ _)
              have hd2 : Disk X2 p (fun k => Since S w X k ∧ k < X.heap.size) d3 := HXD.out.mod (hm1.trans hm2 (fun _ _ h => h)) (fun _ _ => id)
              have hsz2 : X.heap.size + 1 ≤ X2.heap.size := by have := hm2.size; rw [size_alloc] at this; exact this
              have HM2 : Hid (Mod S w X2) := (HXM.out.trans hm1 (noB_sub _ _)).trans hm2 (noB_sub _ _)
              have HL2 := Lib.hid hl2
              have HD2 := Lib.hid hd2
              obtain ⟨bl, k0, k1, k2, k3, k4, kf⟩ := hl2.facts
              clear hm1 hm2 hl2 hd2 hrd
              go_wp2_with fail
              refine (HSC.out _).mono ?_
              rintro e X3 ⟨rfl, hm3⟩
              have hl3 := HL2.out.mod hm3 id
              have HD3 := Lib.hid (HD2.out.mod hm3 (fun _ _ => id))
              have HM3 : Hid (Mod S w X3) := HM2.out.trans hm3 (noB_sub _ _)
              have hsz3 := Nat.le_trans hsz2 hm3.size
              have HL3 := Lib.hid hl3
              obtain ⟨bl3, m0, m1, m2, m3, m4, mf⟩ := hl3.facts
              clear hm3 hl3 k0 k1 k2 k3 k4 kf bl
              have hmz : Mod (fun k => k = X.heap.size) X3 (((X3.setCell ⟨X.heap.size, 1, none⟩ (.string ⟨(s1.take en).toArray⟩)).setCell ⟨X.heap.size, 3, none⟩ (.string ⟨rt.toArray⟩)).setCell ⟨X.heap.size, 4, none⟩ (.int .i64 mk)) :=
                Mod.setCell (Mod.setCell (Mod.setCell (Mod.refl (fun k => k = X.heap.size) X3) _ _ (fun _ => rfl)) _ _ (fun _ => rfl)) _ _ (fun _ => rfl)
              have HL4 : Hid (LogAt (((X3.setCell ⟨X.heap.size, 1, none⟩ (.string ⟨(s1.take en).toArray⟩)).setCell ⟨X.heap.size, 3, none⟩ (.string ⟨rt.toArray⟩)).setCell ⟨X.heap.size, 4, none⟩ (.int .i64 mk)) X.heap.size p ⟨s1.take en, [], rt, mk⟩) := by
                show _ = _
                simp only [heap_setCell_same]
                rw [HL3.out]
                simp only [Lg.cells, Option.map_some, setAt_cells, List.setIfInBounds_toArray, List.set_cons_zero, List.set_cons_succ]
              have hxs := HXM.out.size
              have HM4 : Hid (Mod S w (((X3.setCell ⟨X.heap.size, 1, none⟩ (.string ⟨(s1.take en).toArray⟩)).setCell ⟨X.heap.size, 3, none⟩ (.string ⟨rt.toArray⟩)).setCell ⟨X.heap.size, 4, none⟩ (.int .i64 mk))) := HM3.out.trans hmz (fun k hk h => by omega)
              have HD4 : Hid (Disk (((X3.setCell ⟨X.heap.size, 1, none⟩ (.string ⟨(s1.take en).toArray⟩)).setCell ⟨X.heap.size, 3, none⟩ (.string ⟨rt.toArray⟩)).setCell ⟨X.heap.size, 4, none⟩ (.int .i64 mk)) p (fun k => Since S w X k ∧ k < X.heap.size) d3) := HD3.out.mod hmz (fun k h e => by have := h.2; omega)
              have HT4 : Hid (∀ k, k < (((X3.setCell ⟨X.heap.size, 1, none⟩ (.string ⟨(s1.take en).toArray⟩)).setCell ⟨X.heap.size, 3, none⟩ (.string ⟨rt.toArray⟩)).setCell ⟨X.heap.size, 4, none⟩ (.int .i64 mk)).heap.size → (Since S w X k ∧ k < X.heap.size) → (S k ∨ w.heap.size ≤ k) ∧ k ≠ X.heap.size) := fun k _ h => by
                refine ⟨?_, by omega⟩
                rcases h.1 with h | ⟨h, _⟩
                · exact .inl h
                · exact .inr h
              have hsz4 := hmz.size
              clear hmz
              go_wp2_with fail
              refine (HTR.out _ _ HD4.out).mono ?_
              rintro e X5 ⟨rfl, hm5, hd5⟩
              have HM5 : Hid (Mod S w X5) := HM4.out.trans hm5 (fun k hk h => by
                rcases h.1 with h | ⟨h, _⟩
                · exact h
                · omega)
              have HL5 := Lib.hid (HL4.out.mod hm5 (fun h => by have := h.2; omega))
              have HD5 := Lib.hid hd5
              have HT5 : Hid (∀ k, k < X5.heap.size → Since (fun k => Since S w X k ∧ k < X.heap.size) (((X3.setCell ⟨X.heap.size, 1, none⟩ (.string ⟨(s1.take en).toArray⟩)).setCell ⟨X.heap.size, 3, none⟩ (.string ⟨rt.toArray⟩)).setCell ⟨X.heap.size, 4, none⟩ (.int .i64 mk)) X5 k → (S k ∨ w.heap.size ≤ k) ∧ k ≠ X.heap.size) := fun k _ h => by
                rcases h with h | ⟨h, _⟩
                · refine ⟨?_, by omega⟩
                  rcases h.1 with h | ⟨h, _⟩
                  · exact .inl h
                  · exact .inr h
                · exact ⟨.inr (by omega), by omega⟩
              clear hm5 hd5
              go_wp2_with fail
              go_ret3
              refine ⟨rfl, HM5.out, HD5.out.mono (fun k hk h => ?_)⟩
              rcases (HT5.out k hk h).1 with h | h
              · exact .inl h
              · exact .inr ⟨h, hk⟩
          · rw [if_neg hlt]
            go_enter Tryz.func63, Tryz.ntmps63
            go_wp2_with fail
            refine HDEAD.out.mono ?_
            rintro e w' ⟨rfl, rfl⟩
            go_wp2_with fail
            refine HRD.out.mono ?_
            rintro e X0 ⟨rfl, hm0⟩
            have HM0 := Lib.hid hm0
            go_wp2_with fail
            refine (HRM.out X0 HM0.out).mono ?_
            rintro e X ⟨rfl, hmr, hdr⟩
            have HMR : Hid (Mod S w X) := (HM0.out.mono (noB_sub S _)).trans hmr (fun _ _ h => h)
            have HDR : Hid (Disk X p (Since S w X) d3) := hdr.mono (fun k _ h => by
              rcases h with h | ⟨h, h'⟩
              · exact .inl h
              · exact .inr ⟨Nat.le_trans hm0.size h, h'⟩)
            clear hm0 hmr hdr
            go_wp2_with fail
            have HXD : Hid (Disk X p (fun k => Since S w X k ∧ k < X.heap.size) d3) := HDR.out.mono (fun k hk h => ⟨h, hk⟩)
            have HXM := HMR
            go_wp2_with fail
            have hm1 : Mod NoB X (X.alloc (.cells #[.pointer (some ⟨p, 0, none⟩), .string ⟨#[]⟩, .string ⟨#[]⟩, .string ⟨#[]⟩, .int .i64 0] 168)) := (Mod.refl _ _).alloc _
            have hrd := Read_calls p _ d3 logName _ (HXD.out.mod hm1 (fun _ _ => id)) (by decide)
            rw [HR2.out] at hrd
            refine hrd.mono ?_
            rintro e X2 ⟨rfl, hm2⟩
            have hl2 : LogAt X2 X.heap.size p ⟨[], [], [], 0⟩ := (hm2.block _ (by rw [size_alloc]; omega) id).trans (heap_alloc_new _ _)
            have hd2 : Disk X2 p (fun k => Since S w X k ∧ k < X.heap.size) d3 := HXD.out.mod (hm1.trans hm2 (fun _ _ h => h)) (fun _ _ => id)
            have hsz2 : X.heap.size + 1 ≤ X2.heap.size := by have := hm2.size; rw [size_alloc] at this; exact this
            have HM2 : Hid (Mod S w X2) := (HXM.out.trans hm1 (noB_sub _ _)).trans hm2 (noB_sub _ _)
            have HL2 := Lib.hid hl2
            have HD2 := Lib.hid hd2
            obtain ⟨bl, k0, k1, k2, k3, k4, kf⟩ := hl2.facts
            clear hm1 hm2 hl2 hd2 hrd
            go_wp2_with fail
            refine (HSC.out _).mono ?_
            rintro e X3 ⟨rfl, hm3⟩
            have hl3 := HL2.out.mod hm3 id
            have HD3 := Lib.hid (HD2.out.mod hm3 (fun _ _ => id))
            have HM3 : Hid (Mod S w X3) := HM2.out.trans hm3 (noB_sub _ _)
            have hsz3 := Nat.le_trans hsz2 hm3.size
            have HL3 := Lib.hid hl3
            obtain ⟨bl3, m0, m1, m2, m3, m4, mf⟩ := hl3.facts
            clear hm3 hl3 k0 k1 k2 k3 k4 kf bl
            have hmz : Mod (fun k => k = X.heap.size) X3 (((X3.setCell ⟨X.heap.size, 1, none⟩ (.string ⟨(s1.take en).toArray⟩)).setCell ⟨X.heap.size, 3, none⟩ (.string ⟨rt.toArray⟩)).setCell ⟨X.heap.size, 4, none⟩ (.int .i64 mk)) :=
              Mod.setCell (Mod.setCell (Mod.setCell (Mod.refl (fun k => k = X.heap.size) X3) _ _ (fun _ => rfl)) _ _ (fun _ => rfl)) _ _ (fun _ => rfl)
            have HL4 : Hid (LogAt (((X3.setCell ⟨X.heap.size, 1, none⟩ (.string ⟨(s1.take en).toArray⟩)).setCell ⟨X.heap.size, 3, none⟩ (.string ⟨rt.toArray⟩)).setCell ⟨X.heap.size, 4, none⟩ (.int .i64 mk)) X.heap.size p ⟨s1.take en, [], rt, mk⟩) := by
              show _ = _
              simp only [heap_setCell_same]
              rw [HL3.out]
              simp only [Lg.cells, Option.map_some, setAt_cells, List.setIfInBounds_toArray, List.set_cons_zero, List.set_cons_succ]
            have hxs := HXM.out.size
            have HM4 : Hid (Mod S w (((X3.setCell ⟨X.heap.size, 1, none⟩ (.string ⟨(s1.take en).toArray⟩)).setCell ⟨X.heap.size, 3, none⟩ (.string ⟨rt.toArray⟩)).setCell ⟨X.heap.size, 4, none⟩ (.int .i64 mk))) := HM3.out.trans hmz (fun k hk h => by omega)
            have HD4 : Hid (Disk (((X3.setCell ⟨X.heap.size, 1, none⟩ (.string ⟨(s1.take en).toArray⟩)).setCell ⟨X.heap.size, 3, none⟩ (.string ⟨rt.toArray⟩)).setCell ⟨X.heap.size, 4, none⟩ (.int .i64 mk)) p (fun k => Since S w X k ∧ k < X.heap.size) d3) := HD3.out.mod hmz (fun k h e => by have := h.2; omega)
            have HT4 : Hid (∀ k, k < (((X3.setCell ⟨X.heap.size, 1, none⟩ (.string ⟨(s1.take en).toArray⟩)).setCell ⟨X.heap.size, 3, none⟩ (.string ⟨rt.toArray⟩)).setCell ⟨X.heap.size, 4, none⟩ (.int .i64 mk)).heap.size → (Since S w X k ∧ k < X.heap.size) → (S k ∨ w.heap.size ≤ k) ∧ k ≠ X.heap.size) := fun k _ h => by
              refine ⟨?_, by omega⟩
              rcases h.1 with h | ⟨h, _⟩
              · exact .inl h
              · exact .inr h
            have hsz4 := hmz.size
            clear hmz
            go_wp2_with fail
            refine (sync_after HM4.out HL4.out HD4.out HT4.out).mono ?_
            rintro e w' ⟨rfl, q1, q2, q3⟩
            go_wp2_with fail
            go_ret3
            exact ⟨X.heap.size, rfl, HXM.out.size, q2, q1, q3⟩
        · rw [if_pos he1]
          have he1' : (e1 != 0) = true := by simpa using he1
          have HE1 := Lib.hid he1; clear he1
          go_enter Tryz.func63, Tryz.ntmps63
          go_wp2_with fail
          refine HDEAD.out.mono ?_
          rintro e w' ⟨rfl, rfl⟩
          go_wp2_with fail
          refine HRD.out.mono ?_
          rintro e X0 ⟨rfl, hm0⟩
          have HM0 := Lib.hid hm0
          go_wp2_with fail
          refine (HRM.out X0 HM0.out).mono ?_
          rintro e X ⟨rfl, hmr, hdr⟩
          have HMR : Hid (Mod S w X) := (HM0.out.mono (noB_sub S _)).trans hmr (fun _ _ h => h)
          have HDR : Hid (Disk X p (Since S w X) d3) := hdr.mono (fun k _ h => by
            rcases h with h | ⟨h, h'⟩
            · exact .inl h
            · exact .inr ⟨Nat.le_trans hm0.size h, h'⟩)
          clear hm0 hmr hdr
          go_wp2_with fail
          have HXD : Hid (Disk X p (fun k => Since S w X k ∧ k < X.heap.size) d3) := HDR.out.mono (fun k hk h => ⟨h, hk⟩)
          have HXM := HMR
          go_wp2_with fail
          have hm1 : Mod NoB X (X.alloc (.cells #[.pointer (some ⟨p, 0, none⟩), .string ⟨#[]⟩, .string ⟨#[]⟩, .string ⟨#[]⟩, .int .i64 0] 168)) := (Mod.refl _ _).alloc _
          have hrd := Read_calls p _ d3 logName _ (HXD.out.mod hm1 (fun _ _ => id)) (by decide)
          rw [HR2.out] at hrd
          refine hrd.mono ?_
          rintro e X2 ⟨rfl, hm2⟩
          have hl2 : LogAt X2 X.heap.size p ⟨[], [], [], 0⟩ := (hm2.block _ (by rw [size_alloc]; omega) id).trans (heap_alloc_new _ _)
          have hd2 : Disk X2 p (fun k => Since S w X k ∧ k < X.heap.size) d3 := HXD.out.mod (hm1.trans hm2 (fun _ _ h => h)) (fun _ _ => id)
          have hsz2 : X.heap.size + 1 ≤ X2.heap.size := by have := hm2.size; rw [size_alloc] at this; exact this
          have HM2 : Hid (Mod S w X2) := (HXM.out.trans hm1 (noB_sub _ _)).trans hm2 (noB_sub _ _)
          have HL2 := Lib.hid hl2
          have HD2 := Lib.hid hd2
          obtain ⟨bl, k0, k1, k2, k3, k4, kf⟩ := hl2.facts
          clear hm1 hm2 hl2 hd2 hrd
          go_wp2_with fail
          have hT2 : ∀ k, k < X2.heap.size → (Since S w X k ∧ k < X.heap.size) → (S k ∨ w.heap.size ≤ k) ∧ k ≠ X.heap.size := fun k _ h => by
            refine ⟨?_, by omega⟩
            rcases h.1 with h | ⟨h, _⟩
            · exact .inl h
            · exact .inr h
          refine (sync_after HM2.out HL2.out HD2.out hT2).mono ?_
          rintro e w' ⟨rfl, q1, q2, q3⟩
          go_wp2_with fail
          go_ret3
          exact ⟨X.heap.size, rfl, HXM.out.size, q2, q1, q3⟩
      · rw [if_pos he3]
        have he3' : (e3 != 0) = true := by simpa using he3
        have HE3 := Lib.hid he3; clear he3
        go_enter Tryz.func63, Tryz.ntmps63
        go_wp2_with fail
        refine HDEAD.out.mono ?_
        rintro e w' ⟨rfl, rfl⟩
        go_wp2_with fail
        refine HRD.out.mono ?_
        rintro e X0 ⟨rfl, hm0⟩
        have HM0 := Lib.hid hm0
        go_wp2_with fail
        refine (HRM.out X0 HM0.out).mono ?_
        rintro e X ⟨rfl, hmr, hdr⟩
        have HMR : Hid (Mod S w X) := (HM0.out.mono (noB_sub S _)).trans hmr (fun _ _ h => h)
        have HDR : Hid (Disk X p (Since S w X) d3) := hdr.mono (fun k _ h => by
          rcases h with h | ⟨h, h'⟩
          · exact .inl h
          · exact .inr ⟨Nat.le_trans hm0.size h, h'⟩)
        clear hm0 hmr hdr
        go_wp2_with fail
        go_ret3
        exact ⟨rfl, HMR.out, HDR.out⟩
    · rw [if_neg he]
      have he' : (e0 == 0) = false := by simpa using he
      have HE := Lib.hid he; clear he
      unfold openB
      have hsl := d.read_length logName
      have hle := (HF.out).le.now_size
      have hmost := (HF.out).most
      generalize hr2 : d.read logName = r at *
      obtain ⟨s1, e1⟩ := r
      have HR2 := Lib.hid hr2; clear hr2
      simp only at hsl ⊢
      by_cases he1 : e1 = 0
      · subst he1
        rw [if_neg (by simp)]
        have hsc := scan_bounds s1
        have HSC := Lib.hid (fun X => scan_calls s1 (by omega) X)
        generalize hrs : scan s1 = r at *
        obtain ⟨en, rt, mk⟩ := r
        have HRS := Lib.hid hrs; clear hrs
        simp only at hsc HSC ⊢
        obtain ⟨b1, b2, b3⟩ := hsc
        have hs1 : s1.length ≤ 400000000 := by omega
        clear hsl hle hmost
        by_cases hlt : en < s1.length
        · rw [if_pos hlt]
          have HTR := Lib.hid (fun X T (hX : Disk X p T d) => Truncate_calls p T d logName (en : Nat) (N) X hX (HF.out) (by decide))
          generalize hqt : d.truncate logName (en : Nat) = q at *
          obtain ⟨e4, d4⟩ := q
          have HQT := Lib.hid hqt; clear hqt
          simp only at HTR ⊢
          by_cases he4 : e4 = 0
          · subst he4
            rw [if_neg (by simp)]
            go_enter Tryz.func63, Tryz.ntmps63
            go_wp2_with fail
            refine HDEAD.out.mono ?_
            rintro e w' ⟨rfl, rfl⟩
            go_wp2_with fail
            refine HRD.out.mono ?_
            rintro e X ⟨rfl, hmX⟩
            have HXD : Hid (Disk X p (fun k => Since S w X k ∧ k < X.heap.size) d) := (HD.out.mod hmX (fun _ _ => id)).mono (fun k hk h => ⟨.inl h, hk⟩)
            have HXM : Hid (Mod S w X) := hmX.mono (noB_sub _ _)
            clear hmX
            go_wp2_with fail
            have hm1 : Mod NoB X (X.alloc (.cells #[.pointer (some ⟨p, 0, none⟩), .string ⟨#[]⟩, .string ⟨#[]⟩, .string ⟨#[]⟩, .int .i64 0] 168)) := (Mod.refl _ _).alloc _
            have hrd := Read_calls p _ d logName _ (HXD.out.mod hm1 (fun _ _ => id)) (by decide)
            rw [HR2.out] at hrd
            refine hrd.mono ?_
            rintro e X2 ⟨rfl, hm2⟩
            have hl2 : LogAt X2 X.heap.size p ⟨[], [], [], 0⟩ := (hm2.block _ (by rw [size_alloc]; omega) id).trans (heap_alloc_new _ _)
            have hd2 : Disk X2 p (fun k => Since S w X k ∧ k < X.heap.size) d := HXD.out.mod (hm1.trans hm2 (fun _ _ h => h)) (fun _ _ => id)
            have hsz2 : X.heap.size + 1 ≤ X2.heap.size := by have := hm2.size; rw [size_alloc] at this; exact this
            have HM2 : Hid (Mod S w X2) := (HXM.out.trans hm1 (noB_sub _ _)).trans hm2 (noB_sub _ _)
            have HL2 := Lib.hid hl2
            have HD2 := Lib.hid hd2
            obtain ⟨bl, k0, k1, k2, k3, k4, kf⟩ := hl2.facts
            clear hm1 hm2 hl2 hd2 hrd
            go_wp2_with fail
            refine (HSC.out _).mono ?_
            rintro e X3 ⟨rfl, hm3⟩
            have hl3 := HL2.out.mod hm3 id
            have HD3 := Lib.hid (HD2.out.mod hm3 (fun _ _ => id))
            have HM3 : Hid (Mod S w X3) := HM2.out.trans hm3 (noB_sub _ _)
            have hsz3 := Nat.le_trans hsz2 hm3.size
            have HL3 := Lib.hid hl3
            obtain ⟨bl3, m0, m1, m2, m3, m4, mf⟩ := hl3.facts
            clear hm3 hl3 k0 k1 k2 k3 k4 kf bl
            have hmz : Mod (fun k => k = X.heap.size) X3 (((X3.setCell ⟨X.heap.size, 1, none⟩ (.string ⟨(s1.take en).toArray⟩)).setCell ⟨X.heap.size, 3, none⟩ (.string ⟨rt.toArray⟩)).setCell ⟨X.heap.size, 4, none⟩ (.int .i64 mk)) :=
              Mod.setCell (Mod.setCell (Mod.setCell (Mod.refl (fun k => k = X.heap.size) X3) _ _ (fun _ => rfl)) _ _ (fun _ => rfl)) _ _ (fun _ => rfl)
            have HL4 : Hid (LogAt (((X3.setCell ⟨X.heap.size, 1, none⟩ (.string ⟨(s1.take en).toArray⟩)).setCell ⟨X.heap.size, 3, none⟩ (.string ⟨rt.toArray⟩)).setCell ⟨X.heap.size, 4, none⟩ (.int .i64 mk)) X.heap.size p ⟨s1.take en, [], rt, mk⟩) := by
              show _ = _
              simp only [heap_setCell_same]
              rw [HL3.out]
              simp only [Lg.cells, Option.map_some, setAt_cells, List.setIfInBounds_toArray, List.set_cons_zero, List.set_cons_succ]
            have hxs := HXM.out.size
            have HM4 : Hid (Mod S w (((X3.setCell ⟨X.heap.size, 1, none⟩ (.string ⟨(s1.take en).toArray⟩)).setCell ⟨X.heap.size, 3, none⟩ (.string ⟨rt.toArray⟩)).setCell ⟨X.heap.size, 4, none⟩ (.int .i64 mk))) := HM3.out.trans hmz (fun k hk h => by omega)
            have HD4 : Hid (Disk (((X3.setCell ⟨X.heap.size, 1, none⟩ (.string ⟨(s1.take en).toArray⟩)).setCell ⟨X.heap.size, 3, none⟩ (.string ⟨rt.toArray⟩)).setCell ⟨X.heap.size, 4, none⟩ (.int .i64 mk)) p (fun k => Since S w X k ∧ k < X.heap.size) d) := HD3.out.mod hmz (fun k h e => by have := h.2; omega)
            have HT4 : Hid (∀ k, k < (((X3.setCell ⟨X.heap.size, 1, none⟩ (.string ⟨(s1.take en).toArray⟩)).setCell ⟨X.heap.size, 3, none⟩ (.string ⟨rt.toArray⟩)).setCell ⟨X.heap.size, 4, none⟩ (.int .i64 mk)).heap.size → (Since S w X k ∧ k < X.heap.size) → (S k ∨ w.heap.size ≤ k) ∧ k ≠ X.heap.size) := fun k _ h => by
              refine ⟨?_, by omega⟩
              rcases h.1 with h | ⟨h, _⟩
              · exact .inl h
              · exact .inr h
            have hsz4 := hmz.size
            clear hmz
            go_wp2_with fail
            refine (HTR.out _ _ HD4.out).mono ?_
            rintro e X5 ⟨rfl, hm5, hd5⟩
            have HM5 : Hid (Mod S w X5) := HM4.out.trans hm5 (fun k hk h => by
              rcases h.1 with h | ⟨h, _⟩
              · exact h
              · omega)
            have HL5 := Lib.hid (HL4.out.mod hm5 (fun h => by have := h.2; omega))
            have HD5 := Lib.hid hd5
            have HT5 : Hid (∀ k, k < X5.heap.size → Since (fun k => Since S w X k ∧ k < X.heap.size) (((X3.setCell ⟨X.heap.size, 1, none⟩ (.string ⟨(s1.take en).toArray⟩)).setCell ⟨X.heap.size, 3, none⟩ (.string ⟨rt.toArray⟩)).setCell ⟨X.heap.size, 4, none⟩ (.int .i64 mk)) X5 k → (S k ∨ w.heap.size ≤ k) ∧ k ≠ X.heap.size) := fun k _ h => by
              rcases h with h | ⟨h, _⟩
              · refine ⟨?_, by omega⟩
                rcases h.1 with h | ⟨h, _⟩
                · exact .inl h
                · exact .inr h
              · exact ⟨.inr (by omega), by omega⟩
            clear hm5 hd5
            go_wp2_with fail
            refine (sync_after HM5.out HL5.out HD5.out HT5.out).mono ?_
            rintro e w' ⟨rfl, q1, q2, q3⟩
            go_wp2_with fail
            go_ret3
            exact ⟨X.heap.size, rfl, HXM.out.size, q2, q1, q3⟩
          · rw [if_pos he4]
            have he4' : (e4 != 0) = true := by simpa using he4
            have HE4 := Lib.hid he4; clear he4
            go_enter Tryz.func63, Tryz.ntmps63
            go_wp2_with fail
            refine HDEAD.out.mono ?_
            rintro e w' ⟨rfl, rfl⟩
            go_wp2_with fail
            refine HRD.out.mono ?_
            rintro e X ⟨rfl, hmX⟩
            have HXD : Hid (Disk X p (fun k => Since S w X k ∧ k < X.heap.size) d) := (HD.out.mod hmX (fun _ _ => id)).mono (fun k hk h => ⟨.inl h, hk⟩)
            have HXM : Hid (Mod S w X) := hmX.mono (noB_sub _ _)
            clear hmX
            go_wp2_with fail
            have hm1 : Mod NoB X (X.alloc (.cells #[.pointer (some ⟨p, 0, none⟩), .string ⟨#[]⟩, .string ⟨#[]⟩, .string ⟨#[]⟩, .int .i64 0] 168)) := (Mod.refl _ _).alloc _
            have hrd := Read_calls p _ d logName _ (HXD.out.mod hm1 (fun _ _ => id)) (by decide)
            rw [HR2.out] at hrd
            refine hrd.mono ?_
            rintro e X2 ⟨rfl, hm2⟩
            have hl2 : LogAt X2 X.heap.size p ⟨[], [], [], 0⟩ := (hm2.block _ (by rw [size_alloc]; omega) id).trans (heap_alloc_new _ _)
            have hd2 : Disk X2 p (fun k => Since S w X k ∧ k < X.heap.size) d := HXD.out.mod (hm1.trans hm2 (fun _ _ h => h)) (fun _ _ => id)
            have hsz2 : X.heap.size + 1 ≤ X2.heap.size := by have := hm2.size; rw [size_alloc] at this; exact this
            have HM2 : Hid (Mod S w X2) := (HXM.out.trans hm1 (noB_sub _ _)).trans hm2 (noB_sub _ _)
            have HL2 := Lib.hid hl2
            have HD2 := Lib.hid hd2
            obtain ⟨bl, k0, k1, k2, k3, k4, kf⟩ := hl2.facts
            clear hm1 hm2 hl2 hd2 hrd
            go_wp2_with fail
            refine (HSC.out _).mono ?_
            rintro e X3 ⟨rfl, hm3⟩
            have hl3 := HL2.out.mod hm3 id
            have HD3 := Lib.hid (HD2.out.mod hm3 (fun _ _ => id))
            have HM3 : Hid (Mod S w X3) := HM2.out.trans hm3 (noB_sub _ _)
            have hsz3 := Nat.le_trans hsz2 hm3.size
            have HL3 := Lib.hid hl3
            obtain ⟨bl3, m0, m1, m2, m3, m4, mf⟩ := hl3.facts
            clear hm3 hl3 k0 k1 k2 k3 k4 kf bl
            have hmz : Mod (fun k => k = X.heap.size) X3 (((X3.setCell ⟨X.heap.size, 1, none⟩ (.string ⟨(s1.take en).toArray⟩)).setCell ⟨X.heap.size, 3, none⟩ (.string ⟨rt.toArray⟩)).setCell ⟨X.heap.size, 4, none⟩ (.int .i64 mk)) :=
              Mod.setCell (Mod.setCell (Mod.setCell (Mod.refl (fun k => k = X.heap.size) X3) _ _ (fun _ => rfl)) _ _ (fun _ => rfl)) _ _ (fun _ => rfl)
            have HL4 : Hid (LogAt (((X3.setCell ⟨X.heap.size, 1, none⟩ (.string ⟨(s1.take en).toArray⟩)).setCell ⟨X.heap.size, 3, none⟩ (.string ⟨rt.toArray⟩)).setCell ⟨X.heap.size, 4, none⟩ (.int .i64 mk)) X.heap.size p ⟨s1.take en, [], rt, mk⟩) := by
              show _ = _
              simp only [heap_setCell_same]
              rw [HL3.out]
              simp only [Lg.cells, Option.map_some, setAt_cells, List.setIfInBounds_toArray, List.set_cons_zero, List.set_cons_succ]
            have hxs := HXM.out.size
            have HM4 : Hid (Mod S w (((X3.setCell ⟨X.heap.size, 1, none⟩ (.string ⟨(s1.take en).toArray⟩)).setCell ⟨X.heap.size, 3, none⟩ (.string ⟨rt.toArray⟩)).setCell ⟨X.heap.size, 4, none⟩ (.int .i64 mk))) := HM3.out.trans hmz (fun k hk h => by omega)
            have HD4 : Hid (Disk (((X3.setCell ⟨X.heap.size, 1, none⟩ (.string ⟨(s1.take en).toArray⟩)).setCell ⟨X.heap.size, 3, none⟩ (.string ⟨rt.toArray⟩)).setCell ⟨X.heap.size, 4, none⟩ (.int .i64 mk)) p (fun k => Since S w X k ∧ k < X.heap.size) d) := HD3.out.mod hmz (fun k h e => by have := h.2; omega)
            have HT4 : Hid (∀ k, k < (((X3.setCell ⟨X.heap.size, 1, none⟩ (.string ⟨(s1.take en).toArray⟩)).setCell ⟨X.heap.size, 3, none⟩ (.string ⟨rt.toArray⟩)).setCell ⟨X.heap.size, 4, none⟩ (.int .i64 mk)).heap.size → (Since S w X k ∧ k < X.heap.size) → (S k ∨ w.heap.size ≤ k) ∧ k ≠ X.heap.size) := fun k _ h => by
              refine ⟨?_, by omega⟩
              rcases h.1 with h | ⟨h, _⟩
              · exact .inl h
              · exact .inr h
            have hsz4 := hmz.size
            clear hmz
            go_wp2_with fail
            refine (HTR.out _ _ HD4.out).mono ?_
            rintro e X5 ⟨rfl, hm5, hd5⟩
            have HM5 : Hid (Mod S w X5) := HM4.out.trans hm5 (fun k hk h => by
              rcases h.1 with h | ⟨h, _⟩
              · exact h
              · omega)
            have HL5 := Lib.hid (HL4.out.mod hm5 (fun h => by have := h.2; omega))
            have HD5 := Lib.hid hd5
            have HT5 : Hid (∀ k, k < X5.heap.size → Since (fun k => Since S w X k ∧ k < X.heap.size) (((X3.setCell ⟨X.heap.size, 1, none⟩ (.string ⟨(s1.take en).toArray⟩)).setCell ⟨X.heap.size, 3, none⟩ (.string ⟨rt.toArray⟩)).setCell ⟨X.heap.size, 4, none⟩ (.int .i64 mk)) X5 k → (S k ∨ w.heap.size ≤ k) ∧ k ≠ X.heap.size) := fun k _ h => by
              rcases h with h | ⟨h, _⟩
              · refine ⟨?_, by omega⟩
                rcases h.1 with h | ⟨h, _⟩
                · exact .inl h
                · exact .inr h
              · exact ⟨.inr (by omega), by omega⟩
            clear hm5 hd5
            go_wp2_with fail
            go_ret3
            refine ⟨rfl, HM5.out, HD5.out.mono (fun k hk h => ?_)⟩
            rcases (HT5.out k hk h).1 with h | h
            · exact .inl h
            · exact .inr ⟨h, hk⟩
        · rw [if_neg hlt]
          go_enter Tryz.func63, Tryz.ntmps63
          go_wp2_with fail
          refine HDEAD.out.mono ?_
          rintro e w' ⟨rfl, rfl⟩
          go_wp2_with fail
          refine HRD.out.mono ?_
          rintro e X ⟨rfl, hmX⟩
          have HXD : Hid (Disk X p (fun k => Since S w X k ∧ k < X.heap.size) d) := (HD.out.mod hmX (fun _ _ => id)).mono (fun k hk h => ⟨.inl h, hk⟩)
          have HXM : Hid (Mod S w X) := hmX.mono (noB_sub _ _)
          clear hmX
          go_wp2_with fail
          have hm1 : Mod NoB X (X.alloc (.cells #[.pointer (some ⟨p, 0, none⟩), .string ⟨#[]⟩, .string ⟨#[]⟩, .string ⟨#[]⟩, .int .i64 0] 168)) := (Mod.refl _ _).alloc _
          have hrd := Read_calls p _ d logName _ (HXD.out.mod hm1 (fun _ _ => id)) (by decide)
          rw [HR2.out] at hrd
          refine hrd.mono ?_
          rintro e X2 ⟨rfl, hm2⟩
          have hl2 : LogAt X2 X.heap.size p ⟨[], [], [], 0⟩ := (hm2.block _ (by rw [size_alloc]; omega) id).trans (heap_alloc_new _ _)
          have hd2 : Disk X2 p (fun k => Since S w X k ∧ k < X.heap.size) d := HXD.out.mod (hm1.trans hm2 (fun _ _ h => h)) (fun _ _ => id)
          have hsz2 : X.heap.size + 1 ≤ X2.heap.size := by have := hm2.size; rw [size_alloc] at this; exact this
          have HM2 : Hid (Mod S w X2) := (HXM.out.trans hm1 (noB_sub _ _)).trans hm2 (noB_sub _ _)
          have HL2 := Lib.hid hl2
          have HD2 := Lib.hid hd2
          obtain ⟨bl, k0, k1, k2, k3, k4, kf⟩ := hl2.facts
          clear hm1 hm2 hl2 hd2 hrd
          go_wp2_with fail
          refine (HSC.out _).mono ?_
          rintro e X3 ⟨rfl, hm3⟩
          have hl3 := HL2.out.mod hm3 id
          have HD3 := Lib.hid (HD2.out.mod hm3 (fun _ _ => id))
          have HM3 : Hid (Mod S w X3) := HM2.out.trans hm3 (noB_sub _ _)
          have hsz3 := Nat.le_trans hsz2 hm3.size
          have HL3 := Lib.hid hl3
          obtain ⟨bl3, m0, m1, m2, m3, m4, mf⟩ := hl3.facts
          clear hm3 hl3 k0 k1 k2 k3 k4 kf bl
          have hmz : Mod (fun k => k = X.heap.size) X3 (((X3.setCell ⟨X.heap.size, 1, none⟩ (.string ⟨(s1.take en).toArray⟩)).setCell ⟨X.heap.size, 3, none⟩ (.string ⟨rt.toArray⟩)).setCell ⟨X.heap.size, 4, none⟩ (.int .i64 mk)) :=
            Mod.setCell (Mod.setCell (Mod.setCell (Mod.refl (fun k => k = X.heap.size) X3) _ _ (fun _ => rfl)) _ _ (fun _ => rfl)) _ _ (fun _ => rfl)
          have HL4 : Hid (LogAt (((X3.setCell ⟨X.heap.size, 1, none⟩ (.string ⟨(s1.take en).toArray⟩)).setCell ⟨X.heap.size, 3, none⟩ (.string ⟨rt.toArray⟩)).setCell ⟨X.heap.size, 4, none⟩ (.int .i64 mk)) X.heap.size p ⟨s1.take en, [], rt, mk⟩) := by
            show _ = _
            simp only [heap_setCell_same]
            rw [HL3.out]
            simp only [Lg.cells, Option.map_some, setAt_cells, List.setIfInBounds_toArray, List.set_cons_zero, List.set_cons_succ]
          have hxs := HXM.out.size
          have HM4 : Hid (Mod S w (((X3.setCell ⟨X.heap.size, 1, none⟩ (.string ⟨(s1.take en).toArray⟩)).setCell ⟨X.heap.size, 3, none⟩ (.string ⟨rt.toArray⟩)).setCell ⟨X.heap.size, 4, none⟩ (.int .i64 mk))) := HM3.out.trans hmz (fun k hk h => by omega)
          have HD4 : Hid (Disk (((X3.setCell ⟨X.heap.size, 1, none⟩ (.string ⟨(s1.take en).toArray⟩)).setCell ⟨X.heap.size, 3, none⟩ (.string ⟨rt.toArray⟩)).setCell ⟨X.heap.size, 4, none⟩ (.int .i64 mk)) p (fun k => Since S w X k ∧ k < X.heap.size) d) := HD3.out.mod hmz (fun k h e => by have := h.2; omega)
          have HT4 : Hid (∀ k, k < (((X3.setCell ⟨X.heap.size, 1, none⟩ (.string ⟨(s1.take en).toArray⟩)).setCell ⟨X.heap.size, 3, none⟩ (.string ⟨rt.toArray⟩)).setCell ⟨X.heap.size, 4, none⟩ (.int .i64 mk)).heap.size → (Since S w X k ∧ k < X.heap.size) → (S k ∨ w.heap.size ≤ k) ∧ k ≠ X.heap.size) := fun k _ h => by
            refine ⟨?_, by omega⟩
            rcases h.1 with h | ⟨h, _⟩
            · exact .inl h
            · exact .inr h
          have hsz4 := hmz.size
          clear hmz
          go_wp2_with fail
          refine (sync_after HM4.out HL4.out HD4.out HT4.out).mono ?_
          rintro e w' ⟨rfl, q1, q2, q3⟩
          go_wp2_with fail
          go_ret3
          exact ⟨X.heap.size, rfl, HXM.out.size, q2, q1, q3⟩
      · rw [if_pos he1]
        have he1' : (e1 != 0) = true := by simpa using he1
        have HE1 := Lib.hid he1; clear he1
        go_enter Tryz.func63, Tryz.ntmps63
        go_wp2_with fail
        refine HDEAD.out.mono ?_
        rintro e w' ⟨rfl, rfl⟩
        go_wp2_with fail
        refine HRD.out.mono ?_
        rintro e X ⟨rfl, hmX⟩
        have HXD : Hid (Disk X p (fun k => Since S w X k ∧ k < X.heap.size) d) := (HD.out.mod hmX (fun _ _ => id)).mono (fun k hk h => ⟨.inl h, hk⟩)
        have HXM : Hid (Mod S w X) := hmX.mono (noB_sub _ _)
        clear hmX
        go_wp2_with fail
        have hm1 : Mod NoB X (X.alloc (.cells #[.pointer (some ⟨p, 0, none⟩), .string ⟨#[]⟩, .string ⟨#[]⟩, .string ⟨#[]⟩, .int .i64 0] 168)) := (Mod.refl _ _).alloc _
        have hrd := Read_calls p _ d logName _ (HXD.out.mod hm1 (fun _ _ => id)) (by decide)
        rw [HR2.out] at hrd
        refine hrd.mono ?_
        rintro e X2 ⟨rfl, hm2⟩
        have hl2 : LogAt X2 X.heap.size p ⟨[], [], [], 0⟩ := (hm2.block _ (by rw [size_alloc]; omega) id).trans (heap_alloc_new _ _)
        have hd2 : Disk X2 p (fun k => Since S w X k ∧ k < X.heap.size) d := HXD.out.mod (hm1.trans hm2 (fun _ _ h => h)) (fun _ _ => id)
        have hsz2 : X.heap.size + 1 ≤ X2.heap.size := by have := hm2.size; rw [size_alloc] at this; exact this
        have HM2 : Hid (Mod S w X2) := (HXM.out.trans hm1 (noB_sub _ _)).trans hm2 (noB_sub _ _)
        have HL2 := Lib.hid hl2
        have HD2 := Lib.hid hd2
        obtain ⟨bl, k0, k1, k2, k3, k4, kf⟩ := hl2.facts
        clear hm1 hm2 hl2 hd2 hrd
        go_wp2_with fail
        have hT2 : ∀ k, k < X2.heap.size → (Since S w X k ∧ k < X.heap.size) → (S k ∨ w.heap.size ≤ k) ∧ k ≠ X.heap.size := fun k _ h => by
          refine ⟨?_, by omega⟩
          rcases h.1 with h | ⟨h, _⟩
          · exact .inl h
          · exact .inr h
        refine (sync_after HM2.out HL2.out HD2.out hT2).mono ?_
        rintro e w' ⟨rfl, q1, q2, q3⟩
        go_wp2_with fail
        go_ret3
        exact ⟨X.heap.size, rfl, HXM.out.size, q2, q1, q3⟩

def emptyLog : Lg := ⟨[], [], [], 0⟩
theorem aw_open : openW Dk.fresh = (some emptyLog, 0, 0, Dk.fresh) := by kernel_rfl
theorem fit_fresh : Fit Dk.fresh 0 := ⟨⟨by decide, by decide, by decide, by decide, fun c hc => (by cases hc), by decide⟩, by decide, by decide, by decide⟩

end Go.Proofs.YtgofngilfdnakaaGreat
