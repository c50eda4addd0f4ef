/-
  This text proves what cupellaw03.both's do computes for a Sync: for few files and changes, any room, no falls.
-/
import Derived.Test.YtgofngilfdnakaaKeepD
namespace Go.Proofs.Ytgofngilfdnakaa
open Go Go.RowKit
attribute [local go_sem] over_cell over_frozen lt_over le_over noB loudUpon ByteArray.mk_append_mk ByteArray.extract_mk

/-- What a step leaves, whatever it is. -/
def DidA (w : World) (p : Nat) (S : Nat → Prop) (k : Nat) (e : Ending) (w' : World) : Prop :=
  ∃ S' d' sv' lv' F' L' ch' r, e = .returned (.tuple #[bothV p sv' lv' ch', .bool r]) ∧ KS w' p S' d' sv' lv' F' L' ch' k ∧ Mod S w w' ∧ ∀ q, S' q → S q ∨ w.heap.size ≤ q
theorem DidK.all {w : World} {p : Nat} {S : Nat → Prop} {F : Files} {sv : Value} {k : Nat} {e : Ending} {w' : World} (h : DidK w p S F sv k e w') : DidA w p S k e w' := by
  obtain ⟨S', d', lv', L', ch', r, h1, h2, h3⟩ := h
  exact ⟨S', d', sv, lv', F, L', ch', r, h1, h2, h3⟩
theorem KS.mono {w : World} {p : Nat} {S : Nat → Prop} {d : Dk} {sv lv : Value} {F : Files} {L : List Chg} {ch k k' : Nat} (h : KS w p S d sv lv F L ch k) (hk : k ≤ k') : KS w p S d sv lv F L ch k' := ⟨h.disk, h.fr, h.cr, h.rel, h.bb.mono hk⟩
theorem cr_nil {S : Nat → Prop} {w : World} (h : ∀ q, S q → q < w.heap.size) : @CR ⟨S⟩ w (.slice none 0 0) [] := ⟨⟨rfl, .inl ⟨rfl, rfl⟩⟩, @OutS.mk ⟨S⟩ _ _ (fun q hq => by cases hq) h⟩
theorem fr_nil {S : Nat → Prop} {w : World} (h : ∀ q, S q → q < w.heap.size) : @FR ⟨S⟩ w (.slice none 0 0) [] := ⟨⟨rfl, .inl ⟨rfl, rfl⟩⟩, @OutS.mk ⟨S⟩ _ _ (fun q hq => by cases hq) h⟩

set_option maxRecDepth 100000 in
set_option maxHeartbeats 6400000 in
theorem do_sync (p : Nat) (S : Nat → Prop) (d : Dk) (sv lv : Value) (F : Files) (L : List Chg) (ch k : Nat) (n f0 f1 f2 : Int) (a b s : Str) (w : World) (h : KS w p S d sv lv F L ch k) (hk : k ≤ 100) :
    Calls Try.prog 61 #[bothV p sv lv ch, .agg #[.int .i64 5, .string ⟨a.toArray⟩, .string ⟨b.toArray⟩, .string ⟨s.toArray⟩, .int .i64 n, .int .i64 f0, .int .i64 f1, .int .i64 f2]] w (DidA w p S (k + 1)) := by
  have hbl := h.bb.len
  have hbz := h.bb.size
  have HBR := Lib.hid (h.rel.sync)
  have HBB := Lib.hid (h.bb.sync h.rel)
  have HDS := Lib.hid (fun X (hX : Mod NoB w X) => Sync_calls p S d X (h.disk.mod hX (fun (k : Nat) _ => (id : ¬ NoB k))))
  rw [HBR.out.1] at HDS
  have HRS : Hid (∀ S' X, @FR ⟨S'⟩ X sv F → @CR ⟨S'⟩ X lv L → Calls Try.prog 62 #[.agg #[sv, lv, .int .i64 (-1), .slice none 0 0, .int .i64 ch, .bool false]] X fun e w' => ∃ v', e = .returned (.tuple #[.agg #[v', .slice none 0 0, .int .i64 (-1), .slice none 0 0, .int .i64 ch, .bool false], .int .i64 0]) ∧ @FR ⟨S'⟩ w' v' (L.foldl Files.act F) ∧ Mod NoB X w') := fun S' X hF hL =>
    @rsync_calls ⟨S'⟩ sv lv (.slice none 0 0) F L (-1) ch X hF hL h.rel.sorted h.rel.ok (by omega) (by omega) ⟨_, _, _, rfl⟩
  have HFR := Lib.hid h.fr
  have HCR := Lib.hid h.cr
  have HOLD := Lib.hid (@OutS.old ⟨S⟩ _ _ h.fr.2)
  have hsv : ∃ x y z, sv = .slice x y z := by
    letI : Away := ⟨S⟩
    obtain ⟨x, y, e, _⟩ := FR.cells h.fr
    exact ⟨_, _, _, e⟩
  have hlv : ∃ x y z, lv = .slice x y z := by
    letI : Away := ⟨S⟩
    obtain ⟨x, y, e, _⟩ := CR.cells h.cr
    exact ⟨_, _, _, e⟩
  obtain ⟨x1, y1, z1, rfl⟩ := hsv
  obtain ⟨x2, y2, z2, rfl⟩ := hlv
  clear h hbl hbz
  generalize d.sync.2 = d' at *
  generalize L.foldl Files.act F = F' at *
  obtain ⟨W, hW⟩ : ∃ W, ((w.alloc (.cells #[.pointer (some ⟨p, 0, none⟩), .slice x1 y1 z1, .slice x2 y2 z2, .int .i64 (-1), .slice none 0 0, .int .i64 ch, .bool false] 101)).alloc (.cells #[.int .i64 5, .string ⟨a.toArray⟩, .string ⟨b.toArray⟩, .string ⟨s.toArray⟩, .int .i64 n, .int .i64 f0, .int .i64 f1, .int .i64 f2] 103)).alloc (.cells #[.pointer none, .slice none 0 0, .slice none 0 0, .int .i64 0, .slice none 0 0, .int .i64 0, .bool false] 101) = W := ⟨_, rfl⟩
  have hm0 : Mod NoB w W := by rw [← hW]; exact (((Mod.refl _ _).alloc _).alloc _).alloc _
  have hP : W.heap[w.heap.size]? = some (.cells #[.pointer (some ⟨p, 0, none⟩), .slice x1 y1 z1, .slice x2 y2 z2, .int .i64 (-1), .slice none 0 0, .int .i64 ch, .bool false] 101 (0, 0)) := by
    rw [← hW, heap_alloc_lt _ _ _ (by rw [size_alloc, size_alloc]; omega), heap_alloc_lt _ _ _ (by rw [size_alloc]; omega)]
    exact heap_alloc_new _ _
  have hQ : W.heap[w.heap.size + 1]? = some (.cells #[.int .i64 5, .string ⟨a.toArray⟩, .string ⟨b.toArray⟩, .string ⟨s.toArray⟩, .int .i64 n, .int .i64 f0, .int .i64 f1, .int .i64 f2] 103 (0, 0)) := by
    rw [← hW, heap_alloc_lt _ _ _ (by rw [size_alloc, size_alloc]; omega)]
    exact heap_alloc_at' _ _ _ (by rw [size_alloc])
  have hR : W.heap[w.heap.size + 2]? = some (.cells #[.pointer none, .slice none 0 0, .slice none 0 0, .int .i64 0, .slice none 0 0, .int .i64 0, .bool false] 101 (0, 0)) := by
    rw [← hW]
    exact heap_alloc_at' _ _ _ (by rw [size_alloc, size_alloc])
  obtain ⟨db, d0, d1, d2, d3, d4, d5, d6, df⟩ := Both7.facts hP
  obtain ⟨qb, q0, q1, q2, q3, q4, q5, q6, q7, qf⟩ := Act8.facts hQ
  have HM0 := Lib.hid hm0
  have HP := Lib.hid hP
  have HR := Lib.hid hR
  clear hm0 hP hQ hR
  go_enter Try.func61, Try.ntmps61
  go_wp2_with fail
  clear hW
  refine (HDS.out _ HM0.out).mono ?_
  rintro e U ⟨rfl, hmU, hdU⟩
  have hPU := (hmU.block _ db (fun hS => absurd (HOLD.out _ hS) (by omega))).trans HP.out
  have hRU := (hmU.block _ (lt_heap HR.out) (fun hS => absurd (HOLD.out _ hS) (by omega))).trans HR.out
  have HFU := Lib.hid (fr_since (@FR.mod ⟨S⟩ _ _ _ _ HFR.out HM0.out) hmU)
  have HCU := Lib.hid (cr_since (@CR.mod ⟨S⟩ _ _ _ _ HCR.out HM0.out) hmU)
  have HDU := Lib.hid hdU
  have HMU := Lib.hid hmU
  have HRT := Lib.hid (HRS.out _ _ HFU.out HCU.out)
  clear d0 d1 d2 d3 d4 d5 d6 df q0 q1 q2 q3 q4 q5 q6 q7 qf qb HDS HRS HFR HCR hmU hdU db
  have HRW := Lib.hid HR.out
  clear HP HR
  obtain ⟨db, d0, d1, d2, d3, d4, d5, d6, df⟩ := Both7.facts hPU
  have HPU := Lib.hid hPU
  have HRU := Lib.hid hRU
  clear hPU hRU
  go_wp2_with fail
  refine HRT.out.mono ?_
  rintro e Z ⟨v', rfl, hfz, hmZ⟩
  have hlv' : ∃ x y z, v' = .slice x y z := by
    letI : Away := ⟨Since S W U⟩
    obtain ⟨x, y, e, _⟩ := FR.cells hfz
    exact ⟨_, _, _, e⟩
  obtain ⟨x3, y3, z3, rfl⟩ := hlv'
  have hPZ := (hmZ.block _ db id).trans HPU.out
  have hRZ := (hmZ.block _ (lt_heap HRU.out) id).trans HRU.out
  have HFZ := Lib.hid hfz
  have HMZ := Lib.hid hmZ
  clear d0 d1 d2 d3 d4 d5 d6 df db HRT HPU HRU hfz hmZ HFU HCU
  obtain ⟨db, d0, d1, d2, d3, d4, d5, d6, df⟩ := Both7.facts hPZ
  have HPZ := Lib.hid hPZ
  have HRZ := Lib.hid hRZ
  clear hPZ hRZ
  go_upto_region 31 with fail
  refine at_world (P := Code.wp _ _ _ _) (fun V => V.heap[w.heap.size]? = some (.cells #[.pointer (some ⟨p, 0, none⟩), .slice x3 y3 z3, .slice none 0 0, .int .i64 (-1), .slice none 0 0, .int .i64 ch, .bool false] 101 (0, 0)) ∧ Mod (fun k => k = w.heap.size) Z V) ?_ ?_
  · refine ⟨?_, ?_⟩
    · simp only [heap_setCell, if_true, HPZ.out, Option.map_some, setAt_cells, List.setIfInBounds_toArray, List.set_cons_zero, List.set_cons_succ]
    · repeat (first | with_reducible exact Mod.refl _ _ | ((with_reducible refine Mod.setCell ?_ _ _ ?_); rotate_left; (intro _; simp)))
  · rintro V ⟨hPV, hmV⟩
    have hRV := (hmV.block _ (lt_heap HRZ.out) (by omega)).trans HRZ.out
    clear d0 d1 d2 d3 d4 d5 d6 df db
    obtain ⟨db, d0, d1, d2, d3, d4, d5, d6, df⟩ := Both7.facts hPV
    obtain ⟨rb, r0, r1, r2, r3, r4, r5, r6, rf⟩ := Both7.facts hRV
    have HPV := Lib.hid hPV
    have HRV := Lib.hid hRV
    have HMV := Lib.hid hmV
    clear hPV hRV hmV
    go_wp2_with fail
    refine at_world (P := bodyPost _ _ _ _ _) (fun T => T.heap[w.heap.size + 2]? = some (.cells #[.pointer (some ⟨p, 0, none⟩), .slice x3 y3 z3, .slice none 0 0, .int .i64 (-1), .slice none 0 0, .int .i64 ch, .bool false] 101 (0, 0)) ∧ Mod (fun k => k = w.heap.size + 2) V T) ?_ ?_
    · refine ⟨?_, ?_⟩
      · simp only [heap_setCell, if_true, HRV.out, Option.map_some, setAt_cells, List.setIfInBounds_toArray, List.set_cons_zero, List.set_cons_succ]
      · repeat (first | with_reducible exact Mod.refl _ _ | ((with_reducible refine Mod.setCell ?_ _ _ ?_); rotate_left; (intro _; simp)))
    · rintro T ⟨hRT, hmT⟩
      obtain ⟨tb, t0, t1, t2, t3, t4, t5, t6, tf⟩ := Both7.facts hRT
      have hws := HM0.out.size
      have hS' : ∀ q, Since S W U q → ¬ (q = w.heap.size ∨ q = w.heap.size + 2) := fun q hq e => by
        have : w.heap.size + 2 < W.heap.size := lt_heap HRW.out
        rcases hq with hq | ⟨hq, _⟩
        · have := HOLD.out q hq; omega
        · omega
      have hmUT : Mod (fun q => q = w.heap.size ∨ q = w.heap.size + 2) U T := ((HMZ.out.mono (fun _ _ h => h.elim)).trans (HMV.out.mono (G := fun q => q = w.heap.size ∨ q = w.heap.size + 2) (fun _ _ h => .inl h)) (fun _ _ h => h)).trans hmT (fun _ _ h => .inr h)
      have hDT := HDU.out.mod hmUT hS'
      have hFT : @FR ⟨Since S W U⟩ T (.slice x3 y3 z3) F' := @FR.upd ⟨Since S W U⟩ _ _ _ _ _ (@FR.upd ⟨Since S W U⟩ _ _ _ _ _ HFZ.out HMV.out (fun q hq (e : q = w.heap.size) => absurd (row_type HFZ.out.1 hq (e ▸ HPZ.out)) (by decide))) hmT (fun q hq (e : q = w.heap.size + 2) => absurd (row_type HFZ.out.1 hq (e ▸ HRZ.out)) (by decide))
      refine bodyPost_ret (v := .tuple #[.agg #[.pointer (some ⟨p, 0, none⟩), .slice x3 y3 z3, .slice none 0 0, .int .i64 (-1), .slice none 0 0, .int .i64 ch, .bool false], .bool _]) (by simp [results, Try.f61, go_sem, t0, t1, t2, t3, t4, t5, t6]; rfl) rfl ⟨Since S W U, d', .slice x3 y3 z3, .slice none 0 0, F', [], ch, _, rfl, ⟨hDT, hFT, cr_nil (@OutS.old ⟨Since S W U⟩ _ _ hFT.2), HBR.out.2, HBB.out.mono (by omega)⟩, ?_, ?_⟩
      · exact ((HM0.out.mono (noB_sub S _)).trans HMU.out (fun _ _ h => h)).trans hmUT (fun q hq e => by omega)
      · intro q hq
        rcases hq with hq | ⟨hq, _⟩
        · exact .inl hq
        · exact .inr (by omega)

end Go.Proofs.Ytgofngilfdnakaa
