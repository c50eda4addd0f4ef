/-
  This text proves what disk's changes (Append, Write, Move, Remove, Truncate) do to a disk in memory: under bounds that the callers meet.
-/
import Derived.Test.YtgofngilfdnakaaCommit
namespace Go.Proofs.Ytgofngilfdnakaa
open Go Go.RowKit
attribute [local go_sem] over_cell over_frozen lt_over le_over noB loudUpon ByteArray.mk_append_mk ByteArray.extract_mk

/-- A disk that may be worked on: its numbers are within N, its room is a number of Go's. -/
structure Fit (d : Dk) (N : Nat) : Prop where
  le : d.le N
  most : N ≤ 400000000
  low : -9223372036854775808 ≤ d.room
  high : d.room ≤ 9223372036854775807

theorem commit_after {p : Nat} {S : Nat → Prop} {d : Dk} {c : Chg} {N : Nat} {w X : World} (h : Disk w p S d) (hm : Mod NoB w X) (hF : Fit d N) (hc : c.ok) :
    Calls Try.prog 89 #[.pointer (some ⟨p, 0, none⟩), .agg #[.int .i64 c.kind, .string ⟨c.name.toArray⟩, .string ⟨c.to.toArray⟩, .string ⟨c.s.toArray⟩, .int .i64 c.n]] X fun e w' => e = .returned (.int .i64 (d.commit c).1) ∧ Mod S w w' ∧ Disk w' p (Since S w w') (d.commit c).2 :=
  (commit_calls p S d c N X (h.mod hm (fun _ _ => id)) hF.le hF.most hc).mono fun _ _ ⟨he, h1, h2⟩ =>
    ⟨he, (hm.mono (noB_sub S _)).trans h1 (fun _ _ h => h), h2.mono (fun _ _ h => by rcases h with h | ⟨h3, h4⟩; exact .inl h; exact .inr ⟨Nat.le_trans hm.size h3, h4⟩)⟩

set_option maxRecDepth 100000 in
set_option maxHeartbeats 1600000 in
theorem Append_calls (p : Nat) (S : Nat → Prop) (d : Dk) (name s : Str) (N : Nat) (w : World) (h : Disk w p S d) (hF : Fit d N) (hn : name.length ≤ 1000000) (hs : s.length ≤ 1000000000) :
    Calls Try.prog 95 #[.pointer (some ⟨p, 0, none⟩), .string ⟨name.toArray⟩, .string ⟨s.toArray⟩] w fun e w' => e = .returned (.int .i64 (d.append name s).1) ∧ Mod S w w' ∧ Disk w' p (Since S w w') (d.append name s).2 := by
  have hm0 : Mod NoB w (w.alloc (.cells #[.string ⟨name.toArray⟩] 9)) := (Mod.refl _ _).alloc _
  have HMAY := Lib.hid (may_calls p S d false w.heap.size name [] 1 _ (h.mod hm0 (fun _ _ => id)) (heap_alloc_new _ _) (by simp) (by simpa using (by omega : name.length ≤ 140737488351232)))
  have HH := Lib.hid h
  have HF := Lib.hid hF
  clear hm0
  have HFIT := Lib.hid (fun X hX => fits_calls p S d s.length X (h.mod (w' := X) hX (fun (k : Nat) _ => (id : ¬ NoB k))) (by have := hF.le.now_size; have := hF.most; omega) hF.low hF.high)
  clear h hF
  unfold Dk.append
  by_cases h0 : d.may false [name] = 0
  · rw [if_neg (by simpa using h0)]
    rw [h0] at HMAY
    cases hfit : d.fits s.length with
    | false =>
      rw [hfit] at HFIT
      simp only [Bool.not_false, if_true]
      clear h0 hfit
      go_enter Try.func95, Try.ntmps95
      go_wp2_with fail
      refine HMAY.out.mono ?_
      rintro e w' ⟨rfl, hm⟩
      obtain ⟨y1, rfl⟩ := hm.over
      have hmz : Mod NoB w (over (w.alloc (.cells #[.string ⟨name.toArray⟩] 9)) NoB y1) := ((Mod.refl _ _).alloc _).trans (over_mod _ _ _) (fun _ _ h => h)
      go_wp2_with fail
      refine (HFIT.out _ hmz).mono ?_
      rintro e w' ⟨rfl, hm2⟩
      go_wp2_with fail
      go_ret
      have hmy := hmz.trans hm2 (fun _ _ h => h)
      exact ⟨rfl, hmy.mono (noB_sub _ _), (HH.out.mod hmy (fun _ _ => id)).mono (fun _ _ h => .inl h)⟩
    | true =>
      rw [hfit] at HFIT
      simp only [Bool.not_true, Bool.false_eq_true, if_false]
      clear h0 hfit
      have HCM := Lib.hid (fun X hX => commit_after (c := ⟨0, name, [], s, 0⟩) (X := X) HH.out hX HF.out (by refine ⟨?_, ?_, ?_, ?_, ?_, ?_⟩ <;> first | (simp; done) | (simp only; omega)))
      go_enter Try.func95, Try.ntmps95
      go_wp2_with fail
      refine HMAY.out.mono ?_
      rintro e w' ⟨rfl, hm⟩
      obtain ⟨y1, rfl⟩ := hm.over
      have hmz : Mod NoB w (over (w.alloc (.cells #[.string ⟨name.toArray⟩] 9)) NoB y1) := ((Mod.refl _ _).alloc _).trans (over_mod _ _ _) (fun _ _ h => h)
      go_wp2_with fail
      refine (HFIT.out _ hmz).mono ?_
      rintro e w' ⟨rfl, hm2⟩
      go_wp2_with fail
      refine (HCM.out _ (hmz.trans hm2 (fun _ _ h => h))).mono ?_
      rintro e w3 ⟨rfl, hr⟩
      go_wp2_with fail
      go_ret
      exact ⟨rfl, hr⟩
  · rw [if_pos h0]
    have h0' : (d.may false [name] != 0) = true := by simpa using h0
    have H0 := Lib.hid h0; clear h0
    go_enter Try.func95, Try.ntmps95
    go_wp2_with fail
    refine HMAY.out.mono ?_
    rintro e w' ⟨rfl, hm⟩
    obtain ⟨y1, rfl⟩ := hm.over
    go_wp2_with fail
    go_ret
    have hmz : Mod NoB w (over (w.alloc (.cells #[.string ⟨name.toArray⟩] 9)) NoB y1) := ((Mod.refl _ _).alloc _).trans (over_mod _ _ _) (fun _ _ h => h)
    exact ⟨rfl, hmz.mono (noB_sub _ _), (HH.out.mod hmz (fun _ _ => id)).mono (fun _ _ h => .inl h)⟩

set_option maxRecDepth 100000 in
set_option maxHeartbeats 1600000 in
theorem Write_calls (p : Nat) (S : Nat → Prop) (d : Dk) (name s : Str) (N : Nat) (w : World) (h : Disk w p S d) (hF : Fit d N) (hn : name.length ≤ 1000000) (hs : s.length ≤ 1000000000) :
    Calls Try.prog 23 #[.pointer (some ⟨p, 0, none⟩), .string ⟨name.toArray⟩, .string ⟨s.toArray⟩] w fun e w' => e = .returned (.int .i64 (d.write name s).1) ∧ Mod S w w' ∧ Disk w' p (Since S w w') (d.write name s).2 := by
  have hm0 : Mod NoB w (w.alloc (.cells #[.string ⟨name.toArray⟩] 9)) := (Mod.refl _ _).alloc _
  have HMAY := Lib.hid (may_calls p S d false w.heap.size name [] 1 _ (h.mod hm0 (fun _ _ => id)) (heap_alloc_new _ _) (by simp) (by simpa using (by omega : name.length ≤ 140737488351232)))
  have HH := Lib.hid h
  have HF := Lib.hid hF
  clear hm0
  have HFIT := Lib.hid (fun X hX => fits_calls p S d (s.length - (d.now.val name).length) X (h.mod (w' := X) hX (fun (k : Nat) _ => (id : ¬ NoB k))) (by have := hF.le.now_size; have := hF.most; omega) hF.low hF.high)
  obtain ⟨m, rfl, hd, hS⟩ := h
  obtain ⟨hb, c0, c1, c2, c3, c4, c5, c6, hf⟩ := hd.facts
  have hlook : ∀ x, (Instr.lookup 133 (.map (some m.bn)) (.string ⟨name.toArray⟩) false).run Try.prog (over (w.alloc (.cells #[.string ⟨name.toArray⟩] 9)) NoB x) = .ok (.string ⟨(d.now.val name).toArray⟩) (over (w.alloc (.cells #[.string ⟨name.toArray⟩] 9)) NoB x) :=
    fun x => ((hd.now.mod ((Mod.refl NoB w).alloc _) id).mod (over_mod _ NoB x) id).look1 name (by rw [maxLen_eq]; omega)
  have hvl : (d.now.val name).length ≤ 400000000 := by
    have := d.now.val_le name
    have := HF.out.le.now_size
    have := HF.out.most
    omega
  clear hF hd hS
  unfold Dk.write
  by_cases h0 : d.may false [name] = 0
  · rw [if_neg (by simpa using h0)]
    rw [h0] at HMAY
    cases hfit : d.fits (s.length - (d.now.val name).length) with
    | false =>
      rw [hfit] at HFIT
      simp only [Bool.not_false, if_true]
      clear h0 hfit
      generalize d.now.val name = u at *
      go_enter Try.func23, Try.ntmps23
      go_wp2_with fail
      refine HMAY.out.mono ?_
      rintro e w' ⟨rfl, hm⟩
      obtain ⟨y1, rfl⟩ := hm.over
      have hmz : Mod NoB w (over (w.alloc (.cells #[.string ⟨name.toArray⟩] 9)) NoB y1) := ((Mod.refl _ _).alloc _).trans (over_mod _ _ _) (fun _ _ h => h)
      go_wp2_with fail
      refine (HFIT.out _ hmz).mono ?_
      rintro e w' ⟨rfl, hm2⟩
      go_wp2_with fail
      go_ret
      have hmy := hmz.trans hm2 (fun _ _ h => h)
      exact ⟨rfl, hmy.mono (noB_sub _ _), (HH.out.mod hmy (fun _ _ => id)).mono (fun _ _ h => .inl h)⟩
    | true =>
      rw [hfit] at HFIT
      simp only [Bool.not_true, Bool.false_eq_true, if_false]
      clear h0 hfit
      have HCM := Lib.hid (fun X hX => commit_after (c := ⟨1, name, [], s, 0⟩) (X := X) HH.out hX HF.out (by refine ⟨?_, ?_, ?_, ?_, ?_, ?_⟩ <;> first | (simp; done) | (simp only; omega)))
      generalize d.now.val name = u at *
      go_enter Try.func23, Try.ntmps23
      go_wp2_with fail
      refine HMAY.out.mono ?_
      rintro e w' ⟨rfl, hm⟩
      obtain ⟨y1, rfl⟩ := hm.over
      have hmz : Mod NoB w (over (w.alloc (.cells #[.string ⟨name.toArray⟩] 9)) NoB y1) := ((Mod.refl _ _).alloc _).trans (over_mod _ _ _) (fun _ _ h => h)
      go_wp2_with fail
      refine (HFIT.out _ hmz).mono ?_
      rintro e w' ⟨rfl, hm2⟩
      go_wp2_with fail
      refine (HCM.out _ (hmz.trans hm2 (fun _ _ h => h))).mono ?_
      rintro e w3 ⟨rfl, hr⟩
      go_wp2_with fail
      go_ret
      exact ⟨rfl, hr⟩
  · rw [if_pos h0]
    have h0' : (d.may false [name] != 0) = true := by simpa using h0
    have H0 := Lib.hid h0; clear h0
    go_enter Try.func23, Try.ntmps23
    go_wp2_with fail
    refine HMAY.out.mono ?_
    rintro e w' ⟨rfl, hm⟩
    obtain ⟨y1, rfl⟩ := hm.over
    go_wp2_with fail
    go_ret
    have hmz : Mod NoB w (over (w.alloc (.cells #[.string ⟨name.toArray⟩] 9)) NoB y1) := ((Mod.refl _ _).alloc _).trans (over_mod _ _ _) (fun _ _ h => h)
    exact ⟨rfl, hmz.mono (noB_sub _ _), (HH.out.mod hmz (fun _ _ => id)).mono (fun _ _ h => .inl h)⟩

set_option maxRecDepth 100000 in
set_option maxHeartbeats 1600000 in
theorem Remove_calls (p : Nat) (S : Nat → Prop) (d : Dk) (name : Str) (N : Nat) (w : World) (h : Disk w p S d) (hF : Fit d N) (hn : name.length ≤ 1000000)  :
    Calls Try.prog 91 #[.pointer (some ⟨p, 0, none⟩), .string ⟨name.toArray⟩] w fun e w' => e = .returned (.int .i64 (d.remove name).1) ∧ Mod S w w' ∧ Disk w' p (Since S w w') (d.remove name).2 := by
  have hm0 : Mod NoB w (w.alloc (.cells #[.string ⟨name.toArray⟩] 9)) := (Mod.refl _ _).alloc _
  have HMAY := Lib.hid (may_calls p S d true w.heap.size name [] 1 _ (h.mod hm0 (fun _ _ => id)) (heap_alloc_new _ _) (by simp) (by simpa using (by omega : name.length ≤ 140737488351232)))
  have HH := Lib.hid h
  have HF := Lib.hid hF
  clear hm0
  clear h hF
  unfold Dk.remove
  by_cases h0 : d.may true [name] = 0
  · rw [if_neg (by simpa using h0)]
    rw [h0] at HMAY
    clear h0
    have HCM := Lib.hid (fun X hX => commit_after (c := ⟨3, name, [], [], 0⟩) (X := X) HH.out hX HF.out (by refine ⟨?_, ?_, ?_, ?_, ?_, ?_⟩ <;> first | (simp; done) | (simp only; omega)))
    go_enter Try.func91, Try.ntmps91
    go_wp2_with fail
    refine HMAY.out.mono ?_
    rintro e w' ⟨rfl, hm⟩
    obtain ⟨y1, rfl⟩ := hm.over
    have hmz : Mod NoB w (over (w.alloc (.cells #[.string ⟨name.toArray⟩] 9)) NoB y1) := ((Mod.refl _ _).alloc _).trans (over_mod _ _ _) (fun _ _ h => h)
    go_wp2_with fail
    refine (HCM.out _ hmz).mono ?_
    rintro e w3 ⟨rfl, hr⟩
    go_wp2_with fail
    go_ret
    exact ⟨rfl, hr⟩
  · rw [if_pos h0]
    have h0' : (d.may true [name] != 0) = true := by simpa using h0
    have H0 := Lib.hid h0; clear h0
    go_enter Try.func91, Try.ntmps91
    go_wp2_with fail
    refine HMAY.out.mono ?_
    rintro e w' ⟨rfl, hm⟩
    obtain ⟨y1, rfl⟩ := hm.over
    go_wp2_with fail
    go_ret
    have hmz : Mod NoB w (over (w.alloc (.cells #[.string ⟨name.toArray⟩] 9)) NoB y1) := ((Mod.refl _ _).alloc _).trans (over_mod _ _ _) (fun _ _ h => h)
    exact ⟨rfl, hmz.mono (noB_sub _ _), (HH.out.mod hmz (fun _ _ => id)).mono (fun _ _ h => .inl h)⟩

set_option maxRecDepth 100000 in
set_option maxHeartbeats 1600000 in
theorem Truncate_calls (p : Nat) (S : Nat → Prop) (d : Dk) (name : Str) (n : Int) (N : Nat) (w : World) (h : Disk w p S d) (hF : Fit d N) (hn : name.length ≤ 1000000)  :
    Calls Try.prog 93 #[.pointer (some ⟨p, 0, none⟩), .string ⟨name.toArray⟩, .int .i64 n] w fun e w' => e = .returned (.int .i64 (d.truncate name n).1) ∧ Mod S w w' ∧ Disk w' p (Since S w w') (d.truncate name n).2 := by
  have hm0 : Mod NoB w (w.alloc (.cells #[.string ⟨name.toArray⟩] 9)) := (Mod.refl _ _).alloc _
  have HMAY := Lib.hid (may_calls p S d true w.heap.size name [] 1 _ (h.mod hm0 (fun _ _ => id)) (heap_alloc_new _ _) (by simp) (by simpa using (by omega : name.length ≤ 140737488351232)))
  have HH := Lib.hid h
  have HF := Lib.hid hF
  clear hm0
  obtain ⟨m, rfl, hd, hS⟩ := h
  obtain ⟨hb, c0, c1, c2, c3, c4, c5, c6, hf⟩ := hd.facts
  have hlook : ∀ x, (Instr.lookup 133 (.map (some m.bn)) (.string ⟨name.toArray⟩) false).run Try.prog (over (w.alloc (.cells #[.string ⟨name.toArray⟩] 9)) NoB x) = .ok (.string ⟨(d.now.val name).toArray⟩) (over (w.alloc (.cells #[.string ⟨name.toArray⟩] 9)) NoB x) :=
    fun x => ((hd.now.mod ((Mod.refl NoB w).alloc _) id).mod (over_mod _ NoB x) id).look1 name (by rw [maxLen_eq]; omega)
  have hvl : (d.now.val name).length ≤ 400000000 := by
    have := d.now.val_le name
    have := HF.out.le.now_size
    have := HF.out.most
    omega
  clear hF hd hS
  unfold Dk.truncate
  by_cases h0 : d.may true [name] = 0
  · rw [if_neg (by simpa using h0)]
    rw [h0] at HMAY
    clear h0
    by_cases h1 : n < 0
    · rw [if_pos (.inl h1)]
      clear hlook
      go_enter Try.func93, Try.ntmps93
      go_wp2_with fail
      refine HMAY.out.mono ?_
      rintro e w' ⟨rfl, hm⟩
      obtain ⟨y1, rfl⟩ := hm.over
      have hmz : Mod NoB w (over (w.alloc (.cells #[.string ⟨name.toArray⟩] 9)) NoB y1) := ((Mod.refl _ _).alloc _).trans (over_mod _ _ _) (fun _ _ h => h)
      go_wp2_with fail
      go_ret
      exact ⟨rfl, hmz.mono (noB_sub _ _), (HH.out.mod hmz (fun _ _ => id)).mono (fun _ _ h => .inl h)⟩
    · by_cases h2 : n > (d.now.val name).length
      · rw [if_pos (.inr h2)]
        generalize d.now.val name = u at *
        go_enter Try.func93, Try.ntmps93
        go_wp2_with fail
        refine HMAY.out.mono ?_
        rintro e w' ⟨rfl, hm⟩
        obtain ⟨y1, rfl⟩ := hm.over
        have hmz : Mod NoB w (over (w.alloc (.cells #[.string ⟨name.toArray⟩] 9)) NoB y1) := ((Mod.refl _ _).alloc _).trans (over_mod _ _ _) (fun _ _ h => h)
        go_wp2_with fail
        go_ret
        exact ⟨rfl, hmz.mono (noB_sub _ _), (HH.out.mod hmz (fun _ _ => id)).mono (fun _ _ h => .inl h)⟩
      · rw [if_neg (by omega)]
        have HCM := Lib.hid (fun X hX => commit_after (c := ⟨4, name, [], [], n⟩) (X := X) HH.out hX HF.out (by refine ⟨?_, ?_, ?_, ?_, ?_, ?_⟩ <;> first | (simp; done) | (simp only; omega)))
        generalize d.now.val name = u at *
        go_enter Try.func93, Try.ntmps93
        go_wp2_with fail
        refine HMAY.out.mono ?_
        rintro e w' ⟨rfl, hm⟩
        obtain ⟨y1, rfl⟩ := hm.over
        have hmz : Mod NoB w (over (w.alloc (.cells #[.string ⟨name.toArray⟩] 9)) NoB y1) := ((Mod.refl _ _).alloc _).trans (over_mod _ _ _) (fun _ _ h => h)
        go_wp2_with fail
        refine (HCM.out _ hmz).mono ?_
        rintro e w3 ⟨rfl, hr⟩
        go_wp2_with fail
        go_ret
        exact ⟨rfl, hr⟩
  · rw [if_pos h0]
    have h0' : (d.may true [name] != 0) = true := by simpa using h0
    have H0 := Lib.hid h0; clear h0
    go_enter Try.func93, Try.ntmps93
    go_wp2_with fail
    refine HMAY.out.mono ?_
    rintro e w' ⟨rfl, hm⟩
    obtain ⟨y1, rfl⟩ := hm.over
    go_wp2_with fail
    go_ret
    have hmz : Mod NoB w (over (w.alloc (.cells #[.string ⟨name.toArray⟩] 9)) NoB y1) := ((Mod.refl _ _).alloc _).trans (over_mod _ _ _) (fun _ _ h => h)
    exact ⟨rfl, hmz.mono (noB_sub _ _), (HH.out.mod hmz (fun _ _ => id)).mono (fun _ _ h => .inl h)⟩

set_option maxRecDepth 100000 in
set_option maxHeartbeats 1600000 in
theorem Move_calls (p : Nat) (S : Nat → Prop) (d : Dk) (name to : Str) (N : Nat) (w : World) (h : Disk w p S d) (hF : Fit d N) (hn : name.length ≤ 1000000) (ht : to.length ≤ 1000000) :
    Calls Try.prog 101 #[.pointer (some ⟨p, 0, none⟩), .string ⟨name.toArray⟩, .string ⟨to.toArray⟩] w fun e w' => e = .returned (.int .i64 (d.move name to).1) ∧ Mod S w w' ∧ Disk w' p (Since S w w') (d.move name to).2 := by
  have hm0 : Mod NoB w (w.alloc (.cells #[.string ⟨name.toArray⟩, .string ⟨to.toArray⟩] 9)) := (Mod.refl _ _).alloc _
  have HMAY := Lib.hid (may_calls p S d true w.heap.size name [to] 2 _ (h.mod hm0 (fun _ _ => id)) (heap_alloc_new _ _) (by simp) (fun s hs => by rcases List.mem_cons.1 hs with rfl | hs; omega; rw [List.mem_singleton.1 hs]; omega))
  have HH := Lib.hid h
  have HF := Lib.hid hF
  clear hm0 h hF
  unfold Dk.move
  by_cases h0 : d.may true [name, to] = 0
  · rw [if_neg (by simpa using h0)]
    rw [h0] at HMAY
    clear h0
    by_cases h1 : name = to
    · rw [if_pos h1]
      have h1' : (name == to) = true := by simpa using h1
      have H1 := Lib.hid h1; clear h1
      go_enter Try.func101, Try.ntmps101
      go_wp2_with fail
      refine HMAY.out.mono ?_
      rintro e w' ⟨rfl, hm⟩
      obtain ⟨y1, rfl⟩ := hm.over
      have hmz : Mod NoB w (over (w.alloc (.cells #[.string ⟨name.toArray⟩, .string ⟨to.toArray⟩] 9)) NoB y1) := ((Mod.refl _ _).alloc _).trans (over_mod _ _ _) (fun _ _ h => h)
      go_wp2_with fail
      go_ret
      exact ⟨rfl, hmz.mono (noB_sub _ _), (HH.out.mod hmz (fun _ _ => id)).mono (fun _ _ h => .inl h)⟩
    · rw [if_neg h1]
      have h1' : (name == to) = false := by simpa using h1
      have HCM := Lib.hid (fun X hX => commit_after (c := ⟨2, name, to, [], 0⟩) (X := X) HH.out hX HF.out (by refine ⟨?_, ?_, ?_, ?_, ?_, ?_⟩ <;> first | (simp; done) | (simp only; omega)))
      have H1 := Lib.hid h1; clear h1
      go_enter Try.func101, Try.ntmps101
      go_wp2_with fail
      refine HMAY.out.mono ?_
      rintro e w' ⟨rfl, hm⟩
      obtain ⟨y1, rfl⟩ := hm.over
      have hmz : Mod NoB w (over (w.alloc (.cells #[.string ⟨name.toArray⟩, .string ⟨to.toArray⟩] 9)) NoB y1) := ((Mod.refl _ _).alloc _).trans (over_mod _ _ _) (fun _ _ h => h)
      go_wp2_with fail
      refine (HCM.out _ hmz).mono ?_
      rintro e w3 ⟨rfl, hr⟩
      go_wp2_with fail
      go_ret
      exact ⟨rfl, hr⟩
  · rw [if_pos h0]
    have h0' : (d.may true [name, to] != 0) = true := by simpa using h0
    have H0 := Lib.hid h0; clear h0
    go_enter Try.func101, Try.ntmps101
    go_wp2_with fail
    refine HMAY.out.mono ?_
    rintro e w' ⟨rfl, hm⟩
    obtain ⟨y1, rfl⟩ := hm.over
    have hmz : Mod NoB w (over (w.alloc (.cells #[.string ⟨name.toArray⟩, .string ⟨to.toArray⟩] 9)) NoB y1) := ((Mod.refl _ _).alloc _).trans (over_mod _ _ _) (fun _ _ h => h)
    go_wp2_with fail
    go_ret
    exact ⟨rfl, hmz.mono (noB_sub _ _), (HH.out.mod hmz (fun _ _ => id)).mono (fun _ _ h => .inl h)⟩

end Go.Proofs.Ytgofngilfdnakaa
