/-
  This text proves what disk.Disk.Crash does to a disk in memory: under bounds that the callers meet.
-/
import Derived.Test.YtgofngilfdnakaaSurv
import Derived.Test.YtgofngilfdnakaaDiskQ
namespace Go.Proofs.Ytgofngilfdnakaa
open Go Go.RowKit
attribute [local go_sem] over_cell over_frozen lt_over le_over noB loudUpon ByteArray.mk_append_mk ByteArray.extract_mk Oper.semAt_some

set_option maxRecDepth 100000 in
set_option maxHeartbeats 400000 in
theorem survivors_calls (p : Value) (keep torn : Int) (w : World) (hp : ∃ a, p = .pointer a) :
    Calls Try.prog 99 #[p, .int .i64 keep, .int .i64 torn] w fun e w' => e = .returned (.func (.func 135) #[] #[.pointer (some ⟨w.heap.size, 0, none⟩), .pointer (some ⟨w.heap.size + 1, 0, none⟩), .pointer (some ⟨w.heap.size + 2, 0, none⟩)]) ∧
      w' = ((w.alloc (.cells #[p] 23)).alloc (.cells #[.int .i64 keep] 3)).alloc (.cells #[.int .i64 torn] 3) := by
  obtain ⟨a, rfl⟩ := hp
  go_enter Try.func99, Try.ntmps99
  go_wp2
  go_ret
  exact ⟨rfl, rfl⟩

set_option maxRecDepth 100000 in
set_option maxHeartbeats 1600000 in
theorem Crash_calls (p : Nat) (S : Nat → Prop) (d : Dk) (keep torn : Int) (N : Nat) (w : World) (h : Disk w p S d) (hN : d.le N) (hb : N ≤ 500000000) :
    Calls Try.prog 37 #[.pointer (some ⟨p, 0, none⟩), .int .i64 keep, .int .i64 torn] w fun e w' => e = .returned (.tuple #[]) ∧ Mod S w w' ∧ Disk w' p (Since S w w') (d.crash keep torn) := by
  have HD := Lib.hid (Dead_calls p S d (w.alloc (.cells #[.pointer (some ⟨p, 0, none⟩)] 23)) (h.mod ((Mod.refl NoB w).alloc _) (fun _ _ => id)))
  obtain ⟨m, rfl, hd, hS⟩ := h
  obtain ⟨hb, c0, c1, c2, c3, c4, c5, c6, hf⟩ := hd.facts
  unfold Dk.crash
  refine (callsIn_wide (n := 6)).1 (callsIn_of_wp_marks Try.func37 rfl trivial ?_ rfl)
  simp only [Try.ntmps37, List.size_toArray, List.length_cons, List.length_nil, Nat.reduceAdd, Nat.reduceSub, Array.replicate_succ, Array.replicate_zero, List.push_toArray, List.append_toArray, List.nil_append, List.cons_append]
  cases hdn : d.down with
  | true =>
    rw [hdn] at c6 HD
    have HH : Hid (Disk w m.bd S d) := ⟨m, rfl, hd, hS⟩
    simp only [if_true]
    clear hd hS hdn
    gi_wp2_with (refine ⟨trivial, ?_⟩; gi_at_call 45; refine (callsIn_wide.2 HD.out).mono ?_; rintro e w' ⟨rfl, rfl⟩)
    exact ⟨_, results_none rfl _ _ _, rfl, (Mod.refl _ _).alloc _, HH.out.mod ((Mod.refl NoB w).alloc _) (fun _ _ => id) |>.mono (fun _ _ h => .inl h)⟩
  | false =>
    rw [hdn] at c6 HD
    simp only [Bool.false_eq_true, if_false]
    have HH := Lib.hid hd
    have HS := Lib.hid hS
    clear hd hS
    have HDN := Lib.hid hdn; clear hdn
    have hsv := fun w1 => survivors_calls (.pointer (some ⟨m.bd, 0, none⟩)) keep torn w1 ⟨_, rfl⟩
    gi_wp2_with (first
      | (refine ⟨trivial, ?_⟩; gi_at_call 45; refine (callsIn_wide.2 HD.out).mono ?_; rintro e w' ⟨rfl, rfl⟩)
      | (refine ⟨trivial, ?_⟩; gi_at_call 99; refine (callsIn_wide.2 (hsv _)).mono ?_; rintro e w' ⟨rfl, rfl⟩))
    have hW : ∃ w0 b0 bd0 bk bt, w0 = (((w.alloc (.cells #[.pointer (some ⟨m.bd, 0, none⟩)] 23)).alloc (.cells #[.pointer (some ⟨m.bd, 0, none⟩)] 23)).alloc (.cells #[.int .i64 keep] 3)).alloc (.cells #[.int .i64 torn] 3) ∧ b0 = w.heap.size ∧ bd0 = w.heap.size + 1 ∧ bk = w.heap.size + 1 + 1 ∧ bt = w.heap.size + 1 + 2 := ⟨_, _, _, _, _, rfl, rfl, rfl, rfl, rfl⟩
    obtain ⟨w0, b0, bd0, bk, bt, e0, e1, e2, e3, e4⟩ := hW
    rw [← e0, ← e3, ← e4, ← e2, ← e1]
    have hm0 : Mod NoB w w0 := by rw [e0]; exact (((Mod.refl _ _).alloc _).alloc _).alloc _ |>.alloc _
    have hs0 : w0.heap.size = w.heap.size + 4 := by rw [e0]; simp only [size_alloc]
    have f0 : w0.heap[b0]? = some (.cells #[.pointer (some ⟨m.bd, 0, none⟩)] 23) := by
      rw [e0, e1, heap_alloc_lt _ _ _ (by simp only [size_alloc]; omega), heap_alloc_lt _ _ _ (by simp only [size_alloc]; omega), heap_alloc_lt _ _ _ (by simp only [size_alloc]; omega)]
      exact heap_alloc_new _ _
    have f1 : w0.heap[bd0]? = some (.cells #[.pointer (some ⟨m.bd, 0, none⟩)] 23) := by
      rw [e0, e2, heap_alloc_lt _ _ _ (by simp only [size_alloc]; omega), heap_alloc_lt _ _ _ (by simp only [size_alloc]; omega)]
      have := heap_alloc_new (w.alloc (.cells #[.pointer (some ⟨m.bd, 0, none⟩)] 23)) (.cells #[.pointer (some ⟨m.bd, 0, none⟩)] 23)
      rwa [size_alloc] at this
    have f2 : w0.heap[bk]? = some (.cells #[.int .i64 keep] 3) := by
      rw [e0, e3, heap_alloc_lt _ _ _ (by simp only [size_alloc]; omega)]
      have := heap_alloc_new ((w.alloc (.cells #[.pointer (some ⟨m.bd, 0, none⟩)] 23)).alloc (.cells #[.pointer (some ⟨m.bd, 0, none⟩)] 23)) (.cells #[.int .i64 keep] 3)
      rwa [size_alloc, size_alloc] at this
    have f3 : w0.heap[bt]? = some (.cells #[.int .i64 torn] 3) := by
      rw [e0, e4]
      have := heap_alloc_new (((w.alloc (.cells #[.pointer (some ⟨m.bd, 0, none⟩)] 23)).alloc (.cells #[.pointer (some ⟨m.bd, 0, none⟩)] 23)).alloc (.cells #[.int .i64 keep] 3)) (.cells #[.int .i64 torn] 3)
      rwa [size_alloc, size_alloc, size_alloc] at this
    have hd0 : DiskAt w0 m d := HH.out.mod hm0 (fun _ _ => id)
    have hfoot : ∀ k, m.foot k → k < w.heap.size := fun k hk => HH.out.foot_lt hk
    have hbs : m.bs < w.heap.size := hfoot _ (.inr (.inr (.inl rfl)))
    have hsm := survivors1_in m d keep torn bd0 bk bt (6 - 1) w0 hd0 f1 f2 f3 (by have := hN.sure_len; omega) (fun k hk => by have := hfoot k hk; omega) (by omega)
    have HM0 := Lib.hid hm0
    have HD0 := Lib.hid hd0
    have F0 := Lib.hid f0
    have HN := Lib.hid hN
    have HE : Hid (w0.heap.size = w.heap.size + 4 ∧ b0 = w.heap.size ∧ bt = w.heap.size + 1 + 2 ∧ m.bs < w.heap.size) := ⟨hs0, e1, e4, hbs⟩
    have hGB : bt < w0.heap.size ∧ m.bs < w0.heap.size ∧ b0 < w0.heap.size ∧ b0 ≠ bt ∧ b0 ≠ m.bs ∧ m.bd < w0.heap.size ∧ m.bd ≠ bt ∧ m.bs ≠ bt := by omega
    obtain ⟨hg1, hg2, hg3, hg4, hg5, hg6, hg7, hg8⟩ := hGB
    clear hsv f0 f1 f2 f3 hm0 hd0 e0 HD e1 e2 e3 e4 hs0
    refine wpIn_rangeFunc_mod (α := Chg) (n := 6) rfl (by omega) (gf := 135) (lb := #[.pointer (some ⟨bd0, 0, none⟩), .pointer (some ⟨bk, 0, none⟩), .pointer (some ⟨bt, 0, none⟩)]) rfl trivial (enters_of Try.func135 (by kernel_rfl) rfl)
      (encs := fun c : Chg => #[.agg c.cells.toArray]) (G := fun k => k = bt) (B := fun k => k = m.bs) (xs := surv keep torn 0 d.loose) hsm (fun _ => rfl) (fun k hk => by omega) (fun k hk => by omega)
      (fun pre W => Mod (fun k => k = bt ∨ k = m.bs ∨ (w0.heap.size ≤ k ∧ k < w0.heap.size + 2)) w0 W ∧ FilesAt W m.bs (pre.foldl Files.act d.sure)) ?stable ⟨Mod.refl _ _, HD0.out.sure⟩
      (fun pre c a' W => ∃ X, a' = ⟨#[.pointer (some ⟨m.bd, 0, none⟩), .int .i64 keep, .int .i64 torn, .pointer (some ⟨b0, 0, none⟩), undef, undef, .pointer (some ⟨X, 0, none⟩), .pointer (some ⟨m.bd, 0, none⟩), .bool false, .pointer (some ⟨m.bd, 0, none⟩), .int .i64 keep, .int .i64 torn, .func (.func 135) #[] #[.pointer (some ⟨bd0, 0, none⟩), .pointer (some ⟨bk, 0, none⟩), .pointer (some ⟨bt, 0, none⟩)], .agg c.cells.toArray, undef, undef, undef, undef, undef, undef, undef, undef, undef, undef, undef, undef, undef, undef, undef, undef, undef, undef, undef, undef], []⟩ ∧ w0.heap.size + 2 ≤ X ∧ W.heap[X]? = some (.cells c.cells.toArray 149) ∧ Mod (fun k => k = bt ∨ k = m.bs ∨ (w0.heap.size ≤ k ∧ k < w0.heap.size + 2)) w0 W ∧ FilesAt W m.bs (pre.foldl Files.act d.sure)) ?stable2 ?assign ?body ?done
    case stable =>
      rintro s X Y ⟨h1, h2⟩ hm
      exact ⟨h1.trans hm (fun k _ h => by rcases h with h | h; exact .inl h; exact .inr (.inr h)), h2.mod hm (fun h => by rcases h with h | h <;> omega)⟩
    case stable2 =>
      rintro pre c a' X Y ⟨Z, h1, h2, h3, h4, h5⟩ hm
      exact ⟨Z, h1, h2, (hm.block Z (lt_heap h3) (fun h => by omega)).trans h3, h4.trans hm (fun k _ h => .inr (.inr h)), h5.mod hm (fun h => by omega)⟩
    case assign =>
      rintro l pre c W ⟨h1, h2⟩ hsz
      have HI1 := Lib.hid h1
      have HI2 := Lib.hid h2
      clear h1 h2 hsm
      simp only [Chg.cells]
      gi_wp2
      refine ⟨(Mod.refl _ _).alloc _, W.heap.size, rfl, hsz, heap_alloc_new _ _, HI1.out.alloc _, HI2.out.mod ((Mod.refl NoB W).alloc _) id⟩
    case body =>
      rintro l pre c a' W ⟨post, hpost⟩ ⟨X, rfl, hX, h3, h4, h5⟩ hsz
      have HI1 := Lib.hid h4
      have HI2 := Lib.hid h5
      have bX := lt_heap h3
      have x0 := cell_heap h3 0
      have x1 := cell_heap h3 1
      have x2 := cell_heap h3 2
      have x3 := cell_heap h3 3
      have x4 := cell_heap h3 4
      have hF0 := (h4.block b0 hg3 (fun h => by omega)).trans F0.out
      have y0 := cell_heap hF0 0
      have y1 : W.cell? ⟨m.bd, 1, none⟩ = some (.map (some m.bs)) := by
        rw [World.cell?_of_block (w := w0) (h4.block m.bd hg6 (fun h => by have := HH.out.bd_ne; omega))]
        exact HD0.out.facts.2.2.1
      have bb := lt_heap hF0
      have bd := Nat.lt_of_lt_of_le hg6 h4.size
      have hfacts := surv_facts keep (fun c => c.ok ∧ (c.kind = 2 → c.name ≠ c.to)) (fun c q hc => ⟨⟨hc.1.1, hc.1.2.1, hc.1.2.2.1, by have := hc.1.2.2.2.1; simp only [List.length_take]; omega, hc.1.2.2.2.2⟩, hc.2⟩) d.loose torn 0 (fun c hc => ⟨HH.out.changesOk c hc, HN.out.moves c hc⟩)
      obtain ⟨hq1, hq2, hq3⟩ := hfacts
      rw [hpost] at hq1 hq2 hq3
      have hz1 := Files.acts_size pre d.sure (fun c hc => (hq1 c (List.mem_append_left _ hc)).2)
      have hz2 := Files.acts_length pre d.sure
      rw [sumS_append] at hq3
      rw [List.length_append] at hq2
      have hn1 := HN.out.sure_len
      have hn2 := HN.out.sure_size
      have hdo := fun y => do_calls m.bs _ c (over W NoB y) (h5.mod (over_mod _ _ _) id) (by omega) (by omega) (hq1 c (by simp)).1
      clear hpost hq1 hq2 hq3 hz1 hz2 hn1 hn2
      have HDO := Lib.hid hdo
      clear h3 h4 h5 hsm hF0 hdo
      simp only [Chg.cells, List.getElem?_toArray, List.getElem?_cons_zero, List.getElem?_cons_succ] at *
      gi_wp2
      refine wpIn_round_quiet_tail (C := fun w' => ∃ x, w' = over W NoB x) 5 (by kernel_rfl) (by kernel_rfl) (by kernel_rfl) (by rintro ⟨a, w, h⟩; exact absurd h.1 (by simp)) (Cls.drew _ _) ?_
      simp only [List.take_succ_cons, List.take_zero, List.drop_succ_cons, List.drop_zero]
      repeat (go_big_quiet_step (fail))
      refine wpQuiet_nil ?_
      rintro _ ⟨y, rfl⟩
      go_wp2_with fail
      refine (HDO.out y).mono ?_
      rintro e w' ⟨rfl, hm, hfi⟩
      go_wp2_with fail
      have hmW : Mod (fun k => k = m.bs) W w' := ((over_mod W NoB y).mono (noB_sub _ _)).trans hm (fun _ _ h => h)
      exact ⟨hmW, HI1.out.trans hmW (fun k _ h => .inr (.inl h))⟩
    case done =>
      rintro W ⟨h1, h2⟩ hsz hk
      have hF0 := (h1.block b0 hg3 (fun h => by omega)).trans F0.out
      have y0 := cell_heap hF0 0
      have bb := lt_heap hF0
      have bd := Nat.lt_of_lt_of_le hg6 h1.size
      have hcl := (h1.block m.bd hg6 (fun h => by have := HH.out.bd_ne; omega)).trans HD0.out.cells
      have z0 := cell_heap hcl 0
      have z1 := cell_heap hcl 1
      have z2 := cell_heap hcl 2
      have z6 := cell_heap hcl 6
      have zf := frozen_heap hcl
      have hn1 : ¬ b0 = m.bd := by have := HE.out; omega
      have hn2 : ¬ m.bd = b0 := fun e => hn1 e.symm
      obtain ⟨es, cl, hes, hcopy⟩ := h2.clone
      have HI1 := Lib.hid h1
      have HI2 := Lib.hid h2
      have HCO := Lib.hid hcopy
      have HK := Lib.hid hk
      have HCL := Lib.hid hcl
      clear h1 h2 hcopy hk hsm hcl hF0
      simp only [DM.cells, List.getElem?_toArray, List.getElem?_cons_zero, List.getElem?_cons_succ] at *
      gi_wp2
      refine wpIn_wide.2 ?_
      refine wp_region_staged [⟨0, 1, false⟩, ⟨0, 2, false⟩, ⟨0, 3, false⟩, ⟨0, 1, false⟩, ⟨0, 1, false⟩, ⟨0, 1, false⟩, ⟨0, 0, false⟩, ⟨0, 0, true⟩, ⟨1, 2, false⟩, ⟨1, 1, false⟩, ⟨1, 1, true⟩, ⟨2, 3, false⟩, ⟨2, 2, false⟩, ⟨2, 2, true⟩, ⟨3, 4, false⟩, ⟨3, 3, false⟩, ⟨3, 3, true⟩] 4 (clsOf ((fun W : World => [fun w' => ∃ _ : Unit, w' = W.drew, fun w' => ∃ _ : Unit, w' = W.drew.alloc (.map es cl), fun w' => ∃ _ : Unit, w' = (W.drew.alloc (.map es cl)).setCell ⟨m.bd, 0, none⟩ (.map (some W.heap.size)), fun w' => ∃ _ : Unit, w' = ((W.drew.alloc (.map es cl)).setCell ⟨m.bd, 0, none⟩ (.map (some W.heap.size))).setCell ⟨m.bd, 2, none⟩ (.slice none 0 0), fun w' => ∃ _ : Unit, w' = (((W.drew.alloc (.map es cl)).setCell ⟨m.bd, 0, none⟩ (.map (some W.heap.size))).setCell ⟨m.bd, 2, none⟩ (.slice none 0 0)).setCell ⟨m.bd, 6, none⟩ (.bool true)]) _)) (by kernel_rfl) (by kernel_rfl) (by first | exact Cls.drew _ _ | exact ⟨(), rfl⟩) ?_
      refine wpSt_two rfl rfl ⟨_, rfl, by simp⟩ ?_
      go_big_quiet_step ((go_at_call 90; refine (mapClone_calls m.bs es cl W.drew hes).mono ?_; rintro e w' ⟨rfl, rfl⟩; exact ⟨rfl, rfl⟩))
      refine wpQuiet_nil ?_
      go_big_quiet_step ((go_at_call 90; refine (mapClone_calls m.bs es cl W.drew hes).mono ?_; rintro e w' ⟨rfl, rfl⟩; exact ⟨rfl, rfl⟩))
      refine wpQuiet_nil ?_
      refine ⟨rfl, ?_⟩
      refine wpSt_three rfl rfl rfl ⟨_, rfl, by simp⟩ ?_
      go_big_quiet_step ((go_at_call 90; refine (mapClone_calls m.bs es cl W.drew hes).mono ?_; rintro e w' ⟨rfl, rfl⟩; exact ⟨rfl, rfl⟩))
      refine wpQuiet_nil ?_
      go_big_quiet_step ((go_at_call 90; refine (mapClone_calls m.bs es cl W.drew hes).mono ?_; rintro e w' ⟨rfl, rfl⟩; exact ⟨rfl, rfl⟩))
      refine wpQuiet_nil ?_
      refine ⟨rfl, ?_⟩
      go_big_quiet_step ((go_at_call 90; refine (mapClone_calls m.bs es cl W.drew hes).mono ?_; rintro e w' ⟨rfl, rfl⟩; exact ⟨rfl, rfl⟩))
      refine wpQuiet_nil ?_
      refine ⟨rfl, ?_⟩
      refine wpSt_four rfl rfl rfl rfl ⟨_, rfl, by simp⟩ ?_
      go_big_quiet_step ((go_at_call 90; refine (mapClone_calls m.bs es cl W.drew hes).mono ?_; rintro e w' ⟨rfl, rfl⟩; exact ⟨rfl, rfl⟩))
      refine wpQuiet_nil ?_
      go_big_quiet_step ((go_at_call 90; refine (mapClone_calls m.bs es cl W.drew hes).mono ?_; rintro e w' ⟨rfl, rfl⟩; exact ⟨rfl, rfl⟩))
      refine wpQuiet_nil ?_
      refine ⟨rfl, ?_⟩
      go_big_quiet_step ((go_at_call 90; refine (mapClone_calls m.bs es cl W.drew hes).mono ?_; rintro e w' ⟨rfl, rfl⟩; exact ⟨rfl, rfl⟩))
      refine wpQuiet_nil ?_
      refine ⟨rfl, ?_⟩
      go_big_quiet_step ((go_at_call 90; refine (mapClone_calls m.bs es cl W.drew hes).mono ?_; rintro e w' ⟨rfl, rfl⟩; exact ⟨rfl, rfl⟩))
      refine wpQuiet_nil ?_
      refine ⟨rfl, ?_⟩
      refine wpSt_two rfl rfl ⟨_, rfl, by simp⟩ ?_
      go_big_quiet_step ((go_at_call 90; refine (mapClone_calls m.bs es cl W.drew hes).mono ?_; rintro e w' ⟨rfl, rfl⟩; exact ⟨rfl, rfl⟩))
      refine wpQuiet_nil ?_
      go_big_quiet_step ((go_at_call 90; refine (mapClone_calls m.bs es cl W.drew hes).mono ?_; rintro e w' ⟨rfl, rfl⟩; exact ⟨rfl, rfl⟩))
      refine wpQuiet_nil ?_
      refine ⟨rfl, ?_⟩
      refine wpSt_two rfl rfl ⟨_, rfl, by simp⟩ ?_
      go_big_quiet_step ((go_at_call 90; refine (mapClone_calls m.bs es cl W.drew hes).mono ?_; rintro e w' ⟨rfl, rfl⟩; exact ⟨rfl, rfl⟩))
      refine wpQuiet_nil ?_
      go_big_quiet_step ((go_at_call 90; refine (mapClone_calls m.bs es cl W.drew hes).mono ?_; rintro e w' ⟨rfl, rfl⟩; exact ⟨rfl, rfl⟩))
      refine wpQuiet_nil ?_
      refine ⟨rfl, ?_⟩
      refine wpSt_two rfl rfl ⟨_, rfl, by simp⟩ ?_
      go_big_quiet_step ((go_at_call 90; refine (mapClone_calls m.bs es cl W.drew hes).mono ?_; rintro e w' ⟨rfl, rfl⟩; exact ⟨rfl, rfl⟩))
      refine wpQuiet_nil ?_
      go_big_quiet_step ((go_at_call 90; refine (mapClone_calls m.bs es cl W.drew hes).mono ?_; rintro e w' ⟨rfl, rfl⟩; exact ⟨rfl, rfl⟩))
      refine wpQuiet_nil ?_
      refine ⟨rfl, ?_⟩
      refine wpSt_same rfl ?_
      go_big_quiet_step ((go_at_call 90; refine (mapClone_calls m.bs es cl W.drew hes).mono ?_; rintro e w' ⟨rfl, rfl⟩; exact ⟨rfl, rfl⟩))
      refine wpQuiet_nil ?_
      apply wpSt_loud _ rfl rfl rfl
      · (rintro _ ⟨x, rfl⟩; unfold loudAt; go_simp; (go_at_call 90; refine (mapClone_calls m.bs es cl W.drew hes).mono ?_; rintro e w' ⟨rfl, rfl⟩; exact ⟨rfl, rfl⟩))
      simp only [Act.put, List.setIfInBounds_toArray, List.set_cons_succ, List.set_cons_zero]
      refine wpSt_two rfl rfl ⟨_, rfl, by simp⟩ ?_
      go_big_quiet_step ((go_at_call 90; refine (mapClone_calls m.bs es cl W.drew hes).mono ?_; rintro e w' ⟨rfl, rfl⟩; exact ⟨rfl, rfl⟩))
      refine wpQuiet_nil ?_
      go_big_quiet_step ((go_at_call 90; refine (mapClone_calls m.bs es cl W.drew hes).mono ?_; rintro e w' ⟨rfl, rfl⟩; exact ⟨rfl, rfl⟩))
      refine wpQuiet_nil ?_
      refine ⟨rfl, ?_⟩
      refine wpSt_same rfl ?_
      go_big_quiet_step ((go_at_call 90; refine (mapClone_calls m.bs es cl W.drew hes).mono ?_; rintro e w' ⟨rfl, rfl⟩; exact ⟨rfl, rfl⟩))
      refine wpQuiet_nil ?_
      refine wpSt_store rfl rfl rfl rfl ?_ ?_
      · (rintro _ ⟨x, rfl⟩; unfold loudAt; go_simp; first | done | exact ⟨_, rfl⟩)
      refine wpSt_two rfl rfl ⟨_, rfl, by simp⟩ ?_
      go_big_quiet_step ((go_at_call 90; refine (mapClone_calls m.bs es cl W.drew hes).mono ?_; rintro e w' ⟨rfl, rfl⟩; exact ⟨rfl, rfl⟩))
      refine wpQuiet_nil ?_
      go_big_quiet_step ((go_at_call 90; refine (mapClone_calls m.bs es cl W.drew hes).mono ?_; rintro e w' ⟨rfl, rfl⟩; exact ⟨rfl, rfl⟩))
      refine wpQuiet_nil ?_
      refine ⟨rfl, ?_⟩
      refine wpSt_same rfl ?_
      go_big_quiet_step ((go_at_call 90; refine (mapClone_calls m.bs es cl W.drew hes).mono ?_; rintro e w' ⟨rfl, rfl⟩; exact ⟨rfl, rfl⟩))
      refine wpQuiet_nil ?_
      refine wpSt_store rfl rfl rfl rfl ?_ ?_
      · (rintro _ ⟨x, rfl⟩; unfold loudAt; go_simp; first | done | exact ⟨_, rfl⟩)
      refine wpSt_two rfl rfl ⟨_, rfl, by simp⟩ ?_
      go_big_quiet_step ((go_at_call 90; refine (mapClone_calls m.bs es cl W.drew hes).mono ?_; rintro e w' ⟨rfl, rfl⟩; exact ⟨rfl, rfl⟩))
      refine wpQuiet_nil ?_
      go_big_quiet_step ((go_at_call 90; refine (mapClone_calls m.bs es cl W.drew hes).mono ?_; rintro e w' ⟨rfl, rfl⟩; exact ⟨rfl, rfl⟩))
      refine wpQuiet_nil ?_
      refine ⟨rfl, ?_⟩
      refine wpSt_same rfl ?_
      go_big_quiet_step ((go_at_call 90; refine (mapClone_calls m.bs es cl W.drew hes).mono ?_; rintro e w' ⟨rfl, rfl⟩; exact ⟨rfl, rfl⟩))
      refine wpQuiet_nil ?_
      refine wpSt_store rfl rfl rfl rfl ?_ ?_
      · (rintro _ ⟨x, rfl⟩; unfold loudAt; go_simp; first | done | exact ⟨_, rfl⟩)
      refine wpSt_nil ?_
      rintro _ ⟨_, rfl⟩
      have hbn1 : m.bd < W.heap.size := bd
      have hDne : m.bd ≠ w0.heap.size := by omega
      have hKx : ((((W.drew.alloc (.map es cl)).setCell ⟨m.bd, 0, none⟩ (.map (some W.heap.size))).setCell ⟨m.bd, 2, none⟩ (.slice none 0 0)).setCell ⟨m.bd, 6, none⟩ (.bool true)).heap[w0.heap.size]? = some (.deferred (some [])) := by
        rw [heap_setCell_ne _ _ _ _ _ hDne.symm, heap_setCell_ne _ _ _ _ _ hDne.symm, heap_setCell_ne _ _ _ _ _ hDne.symm, heap_alloc_lt _ _ _ (by rw [heap_drew]; omega), heap_drew]
        exact HK.out
      refine ⟨by simp, .inl ⟨_, _, rfl, run_takeDeferred hKx, ?_⟩⟩
      have hmF : Mod (fun k => k = m.bd ∨ k = w0.heap.size) W (((((W.drew.alloc (.map es cl)).setCell ⟨m.bd, 0, none⟩ (.map (some W.heap.size))).setCell ⟨m.bd, 2, none⟩ (.slice none 0 0)).setCell ⟨m.bd, 6, none⟩ (.bool true)).putObj w0.heap.size (.deferred none)) :=
        (Mod.setCell (Mod.setCell (Mod.setCell (Mod.alloc (Mod.drew (Mod.refl (fun k => k = m.bd ∨ k = w0.heap.size) W)) _) _ _ (fun _ => .inl rfl)) _ _ (fun _ => .inl rfl)) _ _ (fun _ => .inl rfl)).trans (mod_putObj (F := fun k => k = m.bd ∨ k = w0.heap.size) _ _ _ (.inr rfl)) (fun _ _ h => h)
      have hmW : Mod (fun k => k = m.bs) w W := (HM0.out.mono (noB_sub (fun k => k = m.bs) _)).trans (HI1.out.mono (G := fun k => k = m.bs ∨ w.heap.size ≤ k) (fun k _ h => by have := HE.out; omega)) (fun k hk h => by rcases h with h | h; exact h; omega)
      have hmA : Mod (fun k => k = m.bs ∨ k = m.bd) w _ := (hmW.mono (fun _ _ h => .inl h)).trans hmF (fun k hk h => by have := HE.out; omega)
      obtain ⟨u1, u2, u3, u4⟩ := HH.out.bd_ne
      have u5 : d.falls.isSome → m.vf.ownBlock ≠ some m.bs := fun hs e => by
        obtain ⟨es', cl', hb'⟩ := HH.out.sure.heap
        have hf := HH.out.falls
        cases ho : d.falls with
        | none => rw [ho] at hs; cases hs
        | some f =>
          rw [ho] at hf
          obtain ⟨g, c, cs, hv, _, _, hg, _⟩ := hf
          rw [hv] at e
          simp only [Value.ownBlock, Option.some.injEq] at e
          rw [e, hb'] at hg
          cases hg
      refine ⟨_, results_none rfl _ _ _, rfl, hmA.mono (fun k _ h => by rcases h with rfl | rfl; exact HS.out _ (.inr (.inr (.inl rfl))); exact HS.out _ (.inl rfl)), ⟨m.bd, W.heap.size, m.bs, .slice none 0 0, m.vf⟩, rfl, ⟨?_, ?_, HI2.out.mod hmF (fun h => by have := HE.out; omega), ⟨rfl, .inl ⟨rfl, rfl⟩⟩, HH.out.falls.mod hmA (fun hs k hk h => ?_), ?_, fun c hc => by cases hc⟩, ?_⟩
      · show _ = some (Obj.cells #[.map (some W.heap.size), .map (some m.bs), .slice none 0 0, .int .i64 d.room, m.vf, .int .i64 d.changes, .bool true] 136 (0, 0))
        rw [World.putObj_heap_other hDne]
        simp only [heap_setCell_same]
        rw [heap_alloc_lt _ _ _ (by rw [heap_drew]; exact hbn1), heap_drew, HCL.out]
        simp only [Option.map_some, setAt_cells, List.setIfInBounds_toArray, List.set_cons_zero, List.set_cons_succ]
      · refine HCO.out _ _ ?_
        rw [World.putObj_heap_other (by simp only; omega), heap_setCell_ne _ _ _ _ _ (by simp only; omega), heap_setCell_ne _ _ _ _ _ (by simp only; omega), heap_setCell_ne _ _ _ _ _ (by simp only; omega)]
        exact heap_alloc_new W.drew _
      · rcases h with rfl | rfl
        · exact u5 hs hk
        · exact u4 hs hk
      · simp only; omega
      · intro k hk
        rcases hk with rfl | rfl | rfl | hk | hk
        · exact .inl (HS.out _ (.inl rfl))
        · refine .inr ⟨?_, ?_⟩
          · simp only; have := HE.out; omega
          · have := hmF.size
            simp [World.putObj]
        · exact .inl (HS.out _ (.inr (.inr (.inl rfl))))
        · cases hk
        · exact .inl (HS.out _ (.inr (.inr (.inr (.inr hk)))))

end Go.Proofs.Ytgofngilfdnakaa
