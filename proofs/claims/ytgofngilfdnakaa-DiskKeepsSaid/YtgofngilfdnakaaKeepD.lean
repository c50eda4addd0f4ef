/-
  This text proves what cupellaw03.both's do computes for a change: for few files and changes, any room, no falls.
-/
import Derived.Test.YtgofngilfdnakaaKeepP
namespace Go.Proofs.Ytgofngilfdnakaa
open Go Go.RowKit
attribute [local go_sem] over_cell over_frozen lt_over le_over noB loudUpon ByteArray.mk_append_mk ByteArray.extract_mk

theorem Both7.facts {w : World} {D : Nat} {x0 x1 x2 x3 x4 x5 x6 : Value} {T : TypeId} (h : w.heap[D]? = some (.cells #[x0, x1, x2, x3, x4, x5, x6] T (0, 0))) : D < w.heap.size ∧ w.cell? ⟨D, 0, none⟩ = some x0 ∧ w.cell? ⟨D, 1, none⟩ = some x1 ∧ w.cell? ⟨D, 2, none⟩ = some x2 ∧ w.cell? ⟨D, 3, none⟩ = some x3 ∧
    w.cell? ⟨D, 4, none⟩ = some x4 ∧ w.cell? ⟨D, 5, none⟩ = some x5 ∧ w.cell? ⟨D, 6, none⟩ = some x6 ∧ ∀ i, w.frozen? ⟨D, i, none⟩ = false :=
  ⟨lt_heap h, (cell_heap h 0).trans rfl, (cell_heap h 1).trans rfl, (cell_heap h 2).trans rfl, (cell_heap h 3).trans rfl, (cell_heap h 4).trans rfl, (cell_heap h 5).trans rfl, (cell_heap h 6).trans rfl, frozen_heap h⟩
theorem Act8.facts {w : World} {D : Nat} {x0 x1 x2 x3 x4 x5 x6 x7 : Value} {T : TypeId} (h : w.heap[D]? = some (.cells #[x0, x1, x2, x3, x4, x5, x6, x7] T (0, 0))) : D < w.heap.size ∧ w.cell? ⟨D, 0, none⟩ = some x0 ∧ w.cell? ⟨D, 1, none⟩ = some x1 ∧ w.cell? ⟨D, 2, none⟩ = some x2 ∧ w.cell? ⟨D, 3, none⟩ = some x3 ∧
    w.cell? ⟨D, 4, none⟩ = some x4 ∧ w.cell? ⟨D, 5, none⟩ = some x5 ∧ w.cell? ⟨D, 6, none⟩ = some x6 ∧ w.cell? ⟨D, 7, none⟩ = some x7 ∧ ∀ i, w.frozen? ⟨D, i, none⟩ = false :=
  ⟨lt_heap h, (cell_heap h 0).trans rfl, (cell_heap h 1).trans rfl, (cell_heap h 2).trans rfl, (cell_heap h 3).trans rfl, (cell_heap h 4).trans rfl, (cell_heap h 5).trans rfl, (cell_heap h 6).trans rfl, (cell_heap h 7).trans rfl, frozen_heap h⟩

theorem out_since {S : Nat → Prop} {w w' : World} {v : Value} (h : @OutS ⟨S⟩ w v) (hm : Mod S w w') (hv : ∀ q, v.ownBlock = some q → q < w.heap.size) : @OutS ⟨Since S w w'⟩ w' v :=
  @OutS.mk ⟨Since S w w'⟩ _ _ (fun q hq hs => by
    rcases hs with hs | ⟨hs, _⟩
    · exact @OutS.off ⟨S⟩ _ _ h q hq hs
    · have := hv q hq; omega) (fun q hq => by
    rcases hq with hq | ⟨_, hq⟩
    · exact Nat.lt_of_lt_of_le (@OutS.old ⟨S⟩ _ _ h q hq) hm.size
    · exact hq)
theorem fr_since {S : Nat → Prop} {w w' : World} {v : Value} {F : Files} (h : @FR ⟨S⟩ w v F) (hm : Mod S w w') : @FR ⟨Since S w w'⟩ w' v F :=
  ⟨ownsRow_mod h.1 hm (fun q hq => @OutS.off ⟨S⟩ _ _ h.2 q hq), out_since h.2 hm (fun q hq => (h.1.lt q hq).2)⟩
theorem cr_since {S : Nat → Prop} {w w' : World} {v : Value} {L : List Chg} (h : @CR ⟨S⟩ w v L) (hm : Mod S w w') : @CR ⟨Since S w w'⟩ w' v L :=
  ⟨ownsRow_mod h.1 hm (fun q hq => @OutS.off ⟨S⟩ _ _ h.2 q hq), out_since h.2 hm (fun q hq => (h.1.lt q hq).2)⟩

/-- The disk, and the document's, in memory. -/
structure KS (w : World) (p : Nat) (S : Nat → Prop) (d : Dk) (sv lv : Value) (F : Files) (L : List Chg) (ch k : Nat) : Prop where
  disk : Disk w p S d
  fr : @FR ⟨S⟩ w sv F
  cr : @CR ⟨S⟩ w lv L
  rel : BR d F L ch
  bb : BB F L ch k
abbrev bothV (p : Nat) (sv lv : Value) (ch : Nat) : Value := .agg #[.pointer (some ⟨p, 0, none⟩), sv, lv, .int .i64 (-1), .slice none 0 0, .int .i64 ch, .bool false]
/-- What a step leaves. -/
def DidK (w : World) (p : Nat) (S : Nat → Prop) (F : Files) (sv : Value) (k : Nat) (e : Ending) (w' : World) : Prop :=
  ∃ S' d' lv' L' ch' r, e = .returned (.tuple #[bothV p sv lv' ch', .bool r]) ∧ KS w' p S' d' sv lv' F L' ch' k ∧ Mod S w w' ∧ ∀ q, S' q → S q ∨ w.heap.size ≤ q

set_option maxRecDepth 100000 in
set_option maxHeartbeats 6400000 in
theorem do_chg (p : Nat) (S : Nat → Prop) (d : Dk) (sv lv : Value) (F : Files) (L : List Chg) (ch k : Nat) (kd : Nat) (kz : Int) (hkz : kz = kd) (hk4 : kd ≤ 4) (n f0 f1 f2 : Int) (a b s : Str) (w : World) (h : KS w p S d sv lv F L ch k) (hk : k ≤ 100)
    (ha : a.length ≤ 9223372036854775807) (hb : b.length ≤ 9223372036854775807) (hs : s.length ≤ 9223372036854775807) :
    Calls Try.prog 61 #[bothV p sv lv ch, .agg #[.int .i64 kz, .string ⟨a.toArray⟩, .string ⟨b.toArray⟩, .string ⟨s.toArray⟩, .int .i64 n, .int .i64 f0, .int .i64 f1, .int .i64 f2]] w (DidK w p S F sv (k + 1)) := by
  have hbl := h.bb.len
  have hbz := h.bb.size
  have hbc := h.bb.changes
  have HFW := Lib.hid (fun X => (few3_calls s X hs).mono (fun e w' (h : e = .returned (.string ⟨(few3 s).toArray⟩) ∧ X = w') => (⟨_, h.1, rfl, h.2⟩ : ∃ u, e = .returned u ∧ u = .string ⟨(few3 s).toArray⟩ ∧ X = w')))
  have HF2 := Lib.hid (fun X => (few3_calls s X hs).mono (fun e w' h => (⟨h.1, h.2.symm⟩ : e = .returned (.string ⟨(few3 s).toArray⟩) ∧ w' = X)))
  have HCH := Lib.hid (fun X (hX : Mod NoB w X) => change_calls p S d (60 * k) X (h.disk.mod hX (fun (k : Nat) _ => (id : ¬ NoB k))) (h.rel.fit h.bb (by omega)) h.rel.up kz kz n f0 f1 f2 a b s ha hb hs)
  have HRC : Hid (∀ X, Mod NoB w X → Calls Try.prog 111 #[.agg #[sv, lv, .int .i64 (-1), .slice none 0 0, .int .i64 ch, .bool false], .agg #[.int .i64 kz, .string ⟨a.toArray⟩, .string ⟨b.toArray⟩, .string ⟨(fs kd s).toArray⟩, .int .i64 n]] X fun e w' => ∃ lv' L' ch' z, e = .returned (.tuple #[.agg #[sv, lv', .int .i64 (-1), .slice none 0 0, .int .i64 (ch' : Nat), .bool false], .int .i64 z]) ∧ @CR ⟨S⟩ w' lv' L' ∧ BR (d.chg kz a b s n).2 F L' ch' ∧ BB F L' ch' (k + 1) ∧ Mod NoB X w') := fun X hX => by
    letI : Away := ⟨S⟩
    have hF := FR.mod h.fr hX
    have hL := CR.mod h.cr hX
    rcases h.rel.chg kd hk4 a b s n with ⟨he, hd⟩ | ⟨he, hd⟩
    · refine (rchange_err sv lv F d.now L ch kd kz hkz a b (fs kd s) n X hF hL h.rel.sorted h.rel.ok (by omega) (by omega) h.rel.now.symm hk4 ha hb he).mono ?_
      rintro e w' ⟨rfl, hm⟩
      exact ⟨lv, L, ch, _, rfl, CR.mod hL hm, by rw [hkz, hd]; exact h.rel, h.bb.mono (by omega), hm⟩
    · refine (rchange_ok sv lv F d.now L ch kd kz hkz a b (fs kd s) n X hF hL h.rel.sorted h.rel.ok (by omega) (by omega) h.rel.now.symm hk4 ha hb (fs_len kd s) (by omega) he).mono ?_
      rintro e w' ⟨lv', rfl, hc, hm⟩
      exact ⟨lv', _, ch + 1, _, rfl, hc, by rw [hkz]; exact hd, h.bb.chg _, hm⟩
  have HFR := Lib.hid h.fr
  have hold : ∀ q, S q → q < w.heap.size := @OutS.old ⟨S⟩ _ _ h.fr.2
  have HOLD := Lib.hid hold
  have hsv : ∃ x y z, sv = .slice x y z := by
    letI : Away := ⟨S⟩
    obtain ⟨x, y, e, _⟩ := FR.cells h.fr
    exact ⟨_, _, _, e⟩
  have hlv : ∃ x y z, lv = .slice x y z := by
    letI : Away := ⟨S⟩
    obtain ⟨x, y, e, _⟩ := CR.cells h.cr
    exact ⟨_, _, _, e⟩
  obtain ⟨x1, y1, z1, rfl⟩ := hsv
  obtain ⟨x2, y2, z2, rfl⟩ := hlv
  generalize d.chg kz a b s n = r at *
  clear h hold hbl hbz
  generalize hfs : fs kd s = t at *
  obtain ⟨W, hW⟩ : ∃ W, ((w.alloc (.cells #[.pointer (some ⟨p, 0, none⟩), .slice x1 y1 z1, .slice x2 y2 z2, .int .i64 (-1), .slice none 0 0, .int .i64 ch, .bool false] 101)).alloc (.cells #[.int .i64 kz, .string ⟨a.toArray⟩, .string ⟨b.toArray⟩, .string ⟨s.toArray⟩, .int .i64 n, .int .i64 f0, .int .i64 f1, .int .i64 f2] 103)).alloc (.cells #[.pointer none, .slice none 0 0, .slice none 0 0, .int .i64 0, .slice none 0 0, .int .i64 0, .bool false] 101) = W := ⟨_, rfl⟩
  have hm0 : Mod NoB w W := by rw [← hW]; exact (((Mod.refl _ _).alloc _).alloc _).alloc _
  have hP : W.heap[w.heap.size]? = some (.cells #[.pointer (some ⟨p, 0, none⟩), .slice x1 y1 z1, .slice x2 y2 z2, .int .i64 (-1), .slice none 0 0, .int .i64 ch, .bool false] 101 (0, 0)) := by
    rw [← hW, heap_alloc_lt _ _ _ (by rw [size_alloc, size_alloc]; omega), heap_alloc_lt _ _ _ (by rw [size_alloc]; omega)]
    exact heap_alloc_new _ _
  have hQ : W.heap[w.heap.size + 1]? = some (.cells #[.int .i64 kz, .string ⟨a.toArray⟩, .string ⟨b.toArray⟩, .string ⟨s.toArray⟩, .int .i64 n, .int .i64 f0, .int .i64 f1, .int .i64 f2] 103 (0, 0)) := by
    rw [← hW, heap_alloc_lt _ _ _ (by rw [size_alloc, size_alloc]; omega)]
    exact heap_alloc_at' _ _ _ (by rw [size_alloc])
  have hR : W.heap[w.heap.size + 2]? = some (.cells #[.pointer none, .slice none 0 0, .slice none 0 0, .int .i64 0, .slice none 0 0, .int .i64 0, .bool false] 101 (0, 0)) := by
    rw [← hW]
    exact heap_alloc_at' _ _ _ (by rw [size_alloc, size_alloc])
  obtain ⟨db, d0, d1, d2, d3, d4, d5, d6, df⟩ := Both7.facts hP
  obtain ⟨qb, q0, q1, q2, q3, q4, q5, q6, q7, qf⟩ := Act8.facts hQ
  obtain ⟨rb, r0, r1, r2, r3, r4, r5, r6, rf⟩ := Both7.facts hR
  have HM0 := Lib.hid hm0
  have HP := Lib.hid hP
  have HQ := Lib.hid hQ
  have HR := Lib.hid hR
  clear hm0 hP hQ hR
  have e5 : (kz == 5) = false := by simp; omega
  have e6 : (kz == 6) = false := by simp; omega
  have e7 : (kz == 7) = false := by simp; omega
  have e8 : (kz == 8) = false := by simp; omega
  have e9 : (kz == 9) = false := by simp; omega
  have g0 : ¬ kz < 0 := by omega
  have g4 : ¬ 4 < kz := by omega
  have HKZ := Lib.hid hkz
  clear hkz hk4
  go_enter Try.func61, Try.ntmps61
  go_upto_region 7 with fail
  go_cut [11] from 12 (fun c wx => ∃ q, c = .pointer (some ⟨q, 0, none⟩) ∧ W.heap.size ≤ q ∧ Hid (wx.heap[q]? = some (.cells #[.int .i64 kz, .string ⟨a.toArray⟩, .string ⟨b.toArray⟩, .string ⟨(few3 s).toArray⟩, .int .i64 n] 178 (0, 0)) ∧ Mod NoB W wx))
  case first =>
    clear hW
    refine wp_region_staged [⟨0, 1, false⟩, ⟨0, 1, false⟩, ⟨0, 1, false⟩, ⟨0, 1, false⟩, ⟨0, 1, false⟩, ⟨0, 1, false⟩, ⟨0, 1, false⟩, ⟨0, 1, false⟩, ⟨0, 1, false⟩, ⟨0, 1, false⟩, ⟨0, 1, false⟩, ⟨0, 0, true⟩, ⟨1, 1, true⟩] 2 (clsOf ((fun W : World => [fun w' => ∃ _ : Unit, w' = W.drew, fun w' => ∃ _ : Unit, w' = W.drew.alloc (.cells #[.int .i64 0, .string ⟨#[]⟩, .string ⟨#[]⟩, .string ⟨#[]⟩, .int .i64 0] 178), fun w' => ∃ _ : Unit, w' = (((((W.drew.alloc (.cells #[.int .i64 0, .string ⟨#[]⟩, .string ⟨#[]⟩, .string ⟨#[]⟩, .int .i64 0] 178)).setCell ⟨W.heap.size, 0, none⟩ (.int .i64 kz)).setCell ⟨W.heap.size, 1, none⟩ (.string ⟨a.toArray⟩)).setCell ⟨W.heap.size, 2, none⟩ (.string ⟨b.toArray⟩)).setCell ⟨W.heap.size, 3, none⟩ (.string ⟨(few3 s).toArray⟩)).setCell ⟨W.heap.size, 4, none⟩ (.int .i64 n)]) _)) (by kernel_rfl) (by kernel_rfl) (by first | exact Cls.drew _ _ | exact ⟨(), rfl⟩) ?_
    refine wpSt_two rfl rfl ⟨_, rfl, by simp⟩ ?_
    go_big_quiet_step ((exact (HF2.out _) _))
    refine wpQuiet_nil ?_
    go_big_quiet_step ((exact (HF2.out _) _))
    refine wpQuiet_nil ?_
    refine ⟨rfl, ?_⟩
    refine wpSt_two rfl rfl ⟨_, rfl, by simp⟩ ?_
    go_big_quiet_step ((exact (HF2.out _) _))
    refine wpQuiet_nil ?_
    go_big_quiet_step ((exact (HF2.out _) _))
    refine wpQuiet_nil ?_
    refine ⟨rfl, ?_⟩
    refine wpSt_two rfl rfl ⟨_, rfl, by simp⟩ ?_
    go_big_quiet_step ((exact (HF2.out _) _))
    refine wpQuiet_nil ?_
    go_big_quiet_step ((exact (HF2.out _) _))
    refine wpQuiet_nil ?_
    refine ⟨rfl, ?_⟩
    refine wpSt_two rfl rfl ⟨_, rfl, by simp⟩ ?_
    go_big_quiet_step ((exact (HF2.out _) _))
    refine wpQuiet_nil ?_
    go_big_quiet_step ((exact (HF2.out _) _))
    refine wpQuiet_nil ?_
    refine ⟨rfl, ?_⟩
    refine wpSt_two rfl rfl ⟨_, rfl, by simp⟩ ?_
    go_big_quiet_step ((exact (HF2.out _) _))
    refine wpQuiet_nil ?_
    go_big_quiet_step ((exact (HF2.out _) _))
    refine wpQuiet_nil ?_
    refine ⟨rfl, ?_⟩
    refine wpSt_two rfl rfl ⟨_, rfl, by simp⟩ ?_
    go_big_quiet_step ((exact (HF2.out _) _))
    refine wpQuiet_nil ?_
    go_big_quiet_step ((exact (HF2.out _) _))
    refine wpQuiet_nil ?_
    refine ⟨rfl, ?_⟩
    refine wpSt_two rfl rfl ⟨_, rfl, by simp⟩ ?_
    go_big_quiet_step ((exact (HF2.out _) _))
    refine wpQuiet_nil ?_
    go_big_quiet_step ((exact (HF2.out _) _))
    refine wpQuiet_nil ?_
    refine ⟨rfl, ?_⟩
    refine wpSt_two rfl rfl ⟨_, rfl, by simp⟩ ?_
    go_big_quiet_step ((exact (HF2.out _) _))
    refine wpQuiet_nil ?_
    go_big_quiet_step ((exact (HF2.out _) _))
    refine wpQuiet_nil ?_
    refine ⟨rfl, ?_⟩
    refine wpSt_two rfl rfl ⟨_, rfl, by simp⟩ ?_
    go_big_quiet_step ((exact (HF2.out _) _))
    refine wpQuiet_nil ?_
    go_big_quiet_step ((exact (HF2.out _) _))
    refine wpQuiet_nil ?_
    refine ⟨rfl, ?_⟩
    refine wpSt_two rfl rfl ⟨_, rfl, by simp⟩ ?_
    go_big_quiet_step ((exact (HF2.out _) _))
    refine wpQuiet_nil ?_
    go_big_quiet_step ((exact (HF2.out _) _))
    refine wpQuiet_nil ?_
    refine ⟨rfl, ?_⟩
    refine wpSt_two rfl rfl ⟨_, rfl, by simp⟩ ?_
    go_big_quiet_step ((exact (HF2.out _) _))
    refine wpQuiet_nil ?_
    go_big_quiet_step ((exact (HF2.out _) _))
    refine wpQuiet_nil ?_
    refine ⟨rfl, ?_⟩
    apply wpSt_loud _ rfl rfl rfl
    · (rintro _ ⟨x, rfl⟩; unfold loudAt; go_simp; first | done | rfl | exact ⟨rfl, rfl⟩ | exact ⟨rfl, ⟨(), rfl⟩⟩)
    simp only [Act.put, List.setIfInBounds_toArray, List.set_cons_succ, List.set_cons_zero]
    refine wpSt_store rfl rfl rfl rfl ?_ ?_
    · (rintro _ ⟨x, rfl⟩; unfold loudAt; go_simp; first | done | exact ⟨_, rfl⟩)
    refine wpSt_nil ?_
    rintro _ ⟨_, rfl⟩
    go_wp2_with fail
    go_meet
    refine ⟨_, rfl, Nat.le_refl _, ⟨?_, ?_⟩⟩
    · rw [heap_drew]
      exact heap_alloc_new _ _
    · repeat (first | with_reducible exact Mod.refl _ _ | with_reducible refine Mod.drew ?_ | with_reducible refine Mod.alloc ?_ _)
  case rest =>
    obtain ⟨Q, rfl, hQ0, HX⟩ := hcut
    obtain ⟨hQc, hmX⟩ := HX.out
    generalize wc = X at *
    have hPX := (hmX.block _ db id).trans HP.out
    have hAX := (hmX.block _ qb id).trans HQ.out
    have hRX := (hmX.block _ rb id).trans HR.out
    have HMX := Lib.hid (HM0.out.trans hmX (fun _ _ h => h))
    have hQP : w.heap.size < Q := by have := HM0.out.size; omega
    have hQA : w.heap.size + 1 < Q := by omega
    have hQR : w.heap.size + 2 < Q := by omega
    have hmwW := hmX.size
    clear hW HX d0 d1 d2 d3 d4 d5 d6 df q0 q1 q2 q3 q4 q5 q6 q7 qf r0 r1 r2 r3 r4 r5 r6 rf HM0 HP HQ HR hmX HFW HF2 db qb rb
    have HQc := Lib.hid hQc
    have HPX := Lib.hid hPX
    have HAX := Lib.hid hAX
    have HRX := Lib.hid hRX
    obtain ⟨ub, u0, u1, u2, u3, u4, uf⟩ := Chg5.facts hQc
    clear hQc hPX hAX hRX
    go_upto_if 34 with fail
    go_cut [] from 34 (fun wx => Hid (wx.heap[Q]? = some (.cells #[.int .i64 kz, .string ⟨a.toArray⟩, .string ⟨b.toArray⟩, .string ⟨t.toArray⟩, .int .i64 n] 178 (0, 0)) ∧ Mod (fun q => q = Q) X wx))
    case first =>
      by_cases hk1 : 1 < kz
      · have hkd : 1 < kd := by have := HKZ.out; omega
        have ht : t = [] := by rw [← hfs]; unfold fs; rw [if_pos hkd]
        subst ht
        go_wp2_with fail
        go_meet
        refine ⟨?_, (Mod.refl _ _).setCell _ _ (fun _ => rfl)⟩
        rw [heap_setCell_same, HQc.out]
        rfl
      · have hkd : ¬ 1 < kd := by have := HKZ.out; omega
        have ht : t = few3 s := by rw [← hfs]; unfold fs; rw [if_neg hkd]
        subst ht
        go_wp2_with fail
        go_meet
        exact ⟨HQc.out, Mod.refl _ _⟩
    case rest =>
      obtain ⟨hQY, hmY⟩ := hcut.out
      generalize wc = Y at *
      have hPY := (hmY.block _ (lt_heap HPX.out) (by omega)).trans HPX.out
      have hAY := (hmY.block _ (lt_heap HAX.out) (by omega)).trans HAX.out
      have hRY := (hmY.block _ (lt_heap HRX.out) (by omega)).trans HRX.out
      have hMY : Mod NoB w Y := HMX.out.trans hmY (fun q hq e => by omega)
      have HRC2 := Lib.hid (HRC.out Y hMY)
      clear HRC u0 u1 u2 u3 u4 uf ub hcut
      obtain ⟨ub, u0, u1, u2, u3, u4, uf⟩ := Chg5.facts hQY
      obtain ⟨db, d0, d1, d2, d3, d4, d5, d6, df⟩ := Both7.facts hPY
      have HPY := Lib.hid hPY
      have HAY := Lib.hid hAY
      have HRY := Lib.hid hRY
      have HMY := Lib.hid hMY
      clear hPY hAY hRY hMY hmY HQc HPX HAX HRX HMX hQY
      go_wp2_with fail
      refine HRC2.out.mono ?_
      rintro e Z ⟨lv', L', ch', z, rfl, hcr, hbr, hbb, hmZ⟩
      have hlv' : ∃ x y z, lv' = .slice x y z := by
        letI : Away := ⟨S⟩
        obtain ⟨x, y, e, _⟩ := CR.cells hcr
        exact ⟨_, _, _, e⟩
      obtain ⟨x3, y3, z3, rfl⟩ := hlv'
      have hPZ := (hmZ.block _ db id).trans HPY.out
      have hAZ := (hmZ.block _ (lt_heap HAY.out) id).trans HAY.out
      have hRZ := (hmZ.block _ (lt_heap HRY.out) id).trans HRY.out
      have HCR := Lib.hid hcr
      have HBR := Lib.hid hbr
      have HBB := Lib.hid hbb
      have HMZ := Lib.hid (HMY.out.trans hmZ (fun _ _ h => h))
      clear u0 u1 u2 u3 u4 uf ub d0 d1 d2 d3 d4 d5 d6 df db HRC2 HPY HAY HRY HMY hcr hbr hbb hmZ
      obtain ⟨db, d0, d1, d2, d3, d4, d5, d6, df⟩ := Both7.facts hPZ
      have HPZ := Lib.hid hPZ
      have HAZ := Lib.hid hAZ
      have HRZ := Lib.hid hRZ
      clear hPZ hAZ hRZ
      go_upto_region 11 with fail
      refine at_world (P := Code.wp _ _ _ _) (fun V => V.heap[w.heap.size]? = some (.cells #[.pointer (some ⟨p, 0, none⟩), .slice x1 y1 z1, .slice x3 y3 z3, .int .i64 (-1), .slice none 0 0, .int .i64 ch', .bool false] 101 (0, 0)) ∧ Mod (fun k => k = w.heap.size) Z V) ?_ ?_
      · refine ⟨?_, ?_⟩
        · simp only [heap_setCell, if_true, HPZ.out, Option.map_some, setAt_cells, List.setIfInBounds_toArray, List.set_cons_zero, List.set_cons_succ]
        · repeat (first | with_reducible exact Mod.refl _ _ | ((with_reducible refine Mod.setCell ?_ _ _ ?_); rotate_left; (intro _; simp)))
      · rintro V ⟨hPV, hmV⟩
        have hAV := (hmV.block _ (lt_heap HAZ.out) (by omega)).trans HAZ.out
        have hRV := (hmV.block _ (lt_heap HRZ.out) (by omega)).trans HRZ.out
        have hMV : Mod NoB w V := HMZ.out.trans hmV (fun q hq e => by omega)
        have HCV := Lib.hid (HCH.out V hMV)
        have HCRV : Hid (@CR ⟨S⟩ V (.slice x3 y3 z3) L') := @CR.upd ⟨S⟩ _ _ _ _ _ HCR.out hmV (fun q hq (e : q = w.heap.size) => absurd (row_type HCR.out.1 hq (e ▸ HPZ.out)) (by decide))
        have HFRV : Hid (@FR ⟨S⟩ V (.slice x1 y1 z1) F) := @FR.mod ⟨S⟩ _ _ _ _ HFR.out hMV
        clear HCH HCR d0 d1 d2 d3 d4 d5 d6 df db HPZ HAZ HRZ HMZ HFR hmV
        obtain ⟨db, d0, d1, d2, d3, d4, d5, d6, df⟩ := Both7.facts hPV
        obtain ⟨qb, q0, q1, q2, q3, q4, q5, q6, q7, qf⟩ := Act8.facts hAV
        have HPV := Lib.hid hPV
        have HRV := Lib.hid hRV
        have HRW := Lib.hid hRV
        have HMV := Lib.hid hMV
        clear hPV hAV hRV hMV
        go_wp2_with fail
        refine HCV.out.mono ?_
        rintro e U ⟨u, rfl, rfl, hmU, hdU⟩
        have hPU := (hmU.block _ db (fun hS => absurd (HOLD.out _ hS) (by omega))).trans HPV.out
        have hRU := (hmU.block _ (lt_heap HRV.out) (fun hS => absurd (HOLD.out _ hS) (by omega))).trans HRV.out
        have HFU := Lib.hid (fr_since HFRV.out hmU)
        have HCU := Lib.hid (cr_since HCRV.out hmU)
        have HDU := Lib.hid hdU
        have HMU := Lib.hid hmU
        clear d0 d1 d2 d3 d4 d5 d6 df q0 q1 q2 q3 q4 q5 q6 q7 qf qb HCV HCRV HFRV HRV HPV hmU hdU db
        obtain ⟨db, d0, d1, d2, d3, d4, d5, d6, df⟩ := Both7.facts hPU
        obtain ⟨rb, r0, r1, r2, r3, r4, r5, r6, rf⟩ := Both7.facts hRU
        have HPU := Lib.hid hPU
        have HRU := Lib.hid hRU
        clear hPU hRU
        go_wp2_with fail
        refine at_world (P := bodyPost _ _ _ _ _) (fun T => T.heap[w.heap.size + 2]? = some (.cells #[.pointer (some ⟨p, 0, none⟩), .slice x1 y1 z1, .slice x3 y3 z3, .int .i64 (-1), .slice none 0 0, .int .i64 ch', .bool false] 101 (0, 0)) ∧ Mod (fun k => k = w.heap.size + 2) U T) ?_ ?_
        · refine ⟨?_, ?_⟩
          · simp only [heap_setCell, if_true, HRU.out, Option.map_some, setAt_cells, List.setIfInBounds_toArray, List.set_cons_zero, List.set_cons_succ]
          · repeat (first | with_reducible exact Mod.refl _ _ | ((with_reducible refine Mod.setCell ?_ _ _ ?_); rotate_left; (intro _; simp)))
        · rintro T ⟨hRT, hmT⟩
          obtain ⟨tb, t0, t1, t2, t3, t4, t5, t6, tf⟩ := Both7.facts hRT
          have hvs := HMV.out.size
          have hS' : ∀ q, Since S V U q → ¬ q = w.heap.size + 2 := fun q hq e => by
            rcases hq with hq | ⟨hq, _⟩
            · have := HOLD.out q hq; omega
            · have : w.heap.size + 2 < V.heap.size := lt_heap HRW.out
              omega
          refine bodyPost_ret (v := .tuple #[.agg #[.pointer (some ⟨p, 0, none⟩), .slice x1 y1 z1, .slice x3 y3 z3, .int .i64 (-1), .slice none 0 0, .int .i64 ch', .bool false], .bool _]) (by simp [results, Try.f61, go_sem, t0, t1, t2, t3, t4, t5, t6]; rfl) rfl ⟨Since S V U, r.2, .slice x3 y3 z3, L', ch', _, rfl, ⟨HDU.out.mod hmT hS', ?_, ?_, HBR.out, HBB.out⟩, ?_, ?_⟩
          · refine @FR.upd ⟨Since S V U⟩ _ _ _ _ _ HFU.out hmT (fun q hq (e : q = w.heap.size + 2) => absurd (row_type HFU.out.1 hq (e ▸ HRU.out)) (by decide))
          · refine @CR.upd ⟨Since S V U⟩ _ _ _ _ _ HCU.out hmT (fun q hq (e : q = w.heap.size + 2) => absurd (row_type HCU.out.1 hq (e ▸ HRU.out)) (by decide))
          · exact ((HMV.out.mono (noB_sub S _)).trans HMU.out (fun _ _ h => h)).trans hmT (fun q hq e => by omega)
          · intro q hq
            rcases hq with hq | ⟨hq, _⟩
            · exact .inl hq
            · exact .inr (by omega)

end Go.Proofs.Ytgofngilfdnakaa
