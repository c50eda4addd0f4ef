/-
  This text proves what cupelref02.Unframe computes: the text of the frame at a place within a string of at most 2^46 bytes.
-/
import Derived.Test.YtgofngilfdnakaaRef2
namespace Go.Proofs.Ytgofngilfdnakaa
open Go Go.RowKit
attribute [local go_sem] over_cell over_frozen lt_over le_over noB loudUpon ByteArray.mk_append_mk ByteArray.extract_mk drop_full

theorem text_took (r : Rd) (m : Nat) : (r.text m).2.took ≤ r.took + 4 + m := by
  have h1 := count_took r m
  have h2 := count_le r m
  have h3 := (r.count m).2.bytes_took (r.count m).1
  unfold Rd.text
  omega

set_option maxRecDepth 100000 in
set_option maxHeartbeats 1600000 in
theorem RefUnframe_calls (s : Str) (k : Nat) (hs : s.length ≤ 70368744177664) (hk : k ≤ s.length) (w : World) :
    Calls Try.prog 21 #[.string ⟨s.toArray⟩, .int .i64 k] w fun e' w' => e' = .returned (.tuple #[.string ⟨(unframe s k).1.toArray⟩, .int .i64 (unframe s k).2.1, .int .i64 (unframe s k).2.2]) ∧ Mod NoB w w' := by
  have hread := @unframe_read s k
  have HTX := Lib.hid (fun X => RefRText_calls ⟨s.drop k, 0, 0⟩ X (by simp))
  have htk := text_took ⟨s.drop k, 0, 0⟩ 2147483647
  have hnl := number_lt (Rd.text ⟨s.drop k, 0, 0⟩ 2147483647).2 4
  have HNX := Lib.hid (fun X => RefRNumber_calls (Rd.text ⟨s.drop k, 0, 0⟩ 2147483647).2 X (by simp only at htk; omega))
  unfold unframe
  simp only
  generalize hT : Rd.text ⟨s.drop k, 0, 0⟩ 2147483647 = T at *
  have HT := Lib.hid hT; clear hT
  obtain ⟨t, r⟩ := T
  simp only at *
  generalize hC : r.number 4 = C at *
  have HC := Lib.hid hC; clear hC
  obtain ⟨sum, r2⟩ := C
  simp only at *
  unfold rdv at HTX HNX
  by_cases he : r2.e = 0
  · obtain ⟨t0, rest, q1, q2, q3, q4, q5, q6⟩ := hread he
    subst q4
    rw [if_neg (by simpa using he)]
    have htl : t.length + 8 ≤ s.length - k := by
      have := congrArg List.length q1
      simp [text_length] at this
      omega
    have htx := text_length t
    have hslice : (s.drop k).take (k + r2.took - 4 - k) = text t := by
      rw [q6, q1, show k + (t.length + 8) - 4 - k = (text t).length by rw [htx]; omega, List.take_left']
      rfl
    rw [hslice, q6]
    have HTT := Lib.hid (fun X => RefText_calls t X (by omega))
    have HAD := Lib.hid (fun X => RefAdler_calls (text t) X (by omega))
    have hal := adler_lt (text t)
    generalize adler (text t) = ad at *
    generalize text t = tt at *
    have HE := Lib.hid he
    simp only [he] at HNX
    clear hread q1 q5 q6 hslice he
    by_cases hne : sum = ad
    · rw [if_neg (by simpa using hne)]
      have hne' : ((sum : Int) != (ad : Int)) = false := by simp [hne]
      have HNE := Lib.hid hne; clear hne
      go_enter Try.func21, Try.ntmps21
      go_wp2_with fail
      refine (HTX.out _).mono ?_
      rintro e X ⟨rfl, hm⟩
      have HX := Lib.hid hm; clear hm
      go_wp2_with fail
      refine (HNX.out _).mono ?_
      rintro e Y ⟨rfl, hm2⟩
      have hl7 : X.heap.size < Y.heap.size := by have := hm2.size; simp only [World.size_alloc] at this; omega
      have h7 : Y.heap[X.heap.size]? = some (.cells #[.string ⟨r.rest.toArray⟩, .int .i64 r.took, .int .i64 r.e] 141 (0, 0)) := (hm2.block _ (by simp only [World.size_alloc]; omega) id).trans (heap_alloc_new _ _)
      have y0 := cell_heap h7 0
      have y1 := cell_heap h7 1
      have y2 := cell_heap h7 2
      have yf := frozen_heap h7
      simp only [List.getElem?_toArray, List.getElem?_cons_zero, List.getElem?_cons_succ] at y0 y1 y2
      have HY : Hid (Mod NoB w Y) := (HX.out.alloc _).trans hm2 (fun _ _ h => h)
      have hwx := HX.out.size
      clear hm2 h7
      go_wp2_with fail
      refine (HTT.out _).mono ?_
      rintro e Z ⟨rfl, hm3⟩
      have HZ : Hid (Mod NoB w Z) := (Mod.setCell (Mod.setCell (Mod.setCell HY.out _ _ (fun h => absurd h (by simp only []; omega))) _ _ (fun h => absurd h (by simp only []; omega))) _ _ (fun h => absurd h (by simp only []; omega))).trans hm3 (fun _ _ h => h)
      clear hm3
      go_wp2_with fail
      refine (HAD.out _).mono ?_
      rintro e w' ⟨rfl, rfl⟩
      go_wp2_with fail
      go_ret3
      exact ⟨by first | rfl | (simp; omega), HZ.out⟩
    · rw [if_pos hne]
      have hne' : ((sum : Int) != (ad : Int)) = true := by simpa using fun h : (sum : Int) = ad => hne (by exact_mod_cast h)
      have HNE := Lib.hid hne; clear hne
      go_enter Try.func21, Try.ntmps21
      go_wp2_with fail
      refine (HTX.out _).mono ?_
      rintro e X ⟨rfl, hm⟩
      have HX := Lib.hid hm; clear hm
      go_wp2_with fail
      refine (HNX.out _).mono ?_
      rintro e Y ⟨rfl, hm2⟩
      have hl7 : X.heap.size < Y.heap.size := by have := hm2.size; simp only [World.size_alloc] at this; omega
      have h7 : Y.heap[X.heap.size]? = some (.cells #[.string ⟨r.rest.toArray⟩, .int .i64 r.took, .int .i64 r.e] 141 (0, 0)) := (hm2.block _ (by simp only [World.size_alloc]; omega) id).trans (heap_alloc_new _ _)
      have y0 := cell_heap h7 0
      have y1 := cell_heap h7 1
      have y2 := cell_heap h7 2
      have yf := frozen_heap h7
      simp only [List.getElem?_toArray, List.getElem?_cons_zero, List.getElem?_cons_succ] at y0 y1 y2
      have HY : Hid (Mod NoB w Y) := (HX.out.alloc _).trans hm2 (fun _ _ h => h)
      have hwx := HX.out.size
      clear hm2 h7
      go_wp2_with fail
      refine (HTT.out _).mono ?_
      rintro e Z ⟨rfl, hm3⟩
      have HZ : Hid (Mod NoB w Z) := (Mod.setCell (Mod.setCell (Mod.setCell HY.out _ _ (fun h => absurd h (by simp only []; omega))) _ _ (fun h => absurd h (by simp only []; omega))) _ _ (fun h => absurd h (by simp only []; omega))).trans hm3 (fun _ _ h => h)
      clear hm3
      go_wp2_with fail
      refine (HAD.out _).mono ?_
      rintro e w' ⟨rfl, rfl⟩
      go_wp2_with fail
      go_ret3
      exact ⟨rfl, HZ.out⟩
  · rw [if_pos he]
    have he' : (r2.e != 0) = true := by simpa using he
    have HE := Lib.hid he; clear he hread
    go_enter Try.func21, Try.ntmps21
    go_wp2_with fail
    refine (HTX.out _).mono ?_
    rintro e X ⟨rfl, hm⟩
    have HX := Lib.hid hm; clear hm
    go_wp2_with fail
    refine (HNX.out _).mono ?_
    rintro e Y ⟨rfl, hm2⟩
    have hl7 : X.heap.size < Y.heap.size := by have := hm2.size; simp only [World.size_alloc] at this; omega
    have h7 : Y.heap[X.heap.size]? = some (.cells #[.string ⟨r.rest.toArray⟩, .int .i64 r.took, .int .i64 r.e] 141 (0, 0)) := (hm2.block _ (by simp only [World.size_alloc]; omega) id).trans (heap_alloc_new _ _)
    have y0 := cell_heap h7 0
    have y1 := cell_heap h7 1
    have y2 := cell_heap h7 2
    have yf := frozen_heap h7
    simp only [List.getElem?_toArray, List.getElem?_cons_zero, List.getElem?_cons_succ] at y0 y1 y2
    have HY : Hid (Mod NoB w Y) := (HX.out.alloc _).trans hm2 (fun _ _ h => h)
    have hwx := HX.out.size
    clear hm2 h7
    go_wp2_with fail
    refine wp_region_staged [⟨0, 0, false⟩, ⟨0, 0, false⟩, ⟨0, 0, false⟩, ⟨0, 0, false⟩, ⟨0, 0, false⟩] 0 (clsOf ((fun W : World => [fun w' => ∃ x, w' = over W NoB x]) _)) (by kernel_rfl) (by kernel_rfl) (by first | exact Cls.drew _ _ | exact ⟨(), rfl⟩) ?_
    refine wpSt_same rfl ?_
    go_big_quiet_step (fail)
    refine wpQuiet_nil ?_
    refine wpSt_same rfl ?_
    go_big_quiet_step (fail)
    refine wpQuiet_nil ?_
    refine wpSt_same rfl ?_
    go_big_quiet_step (fail)
    refine wpQuiet_nil ?_
    refine wpSt_same rfl ?_
    go_big_quiet_step (fail)
    refine wpQuiet_nil ?_
    refine wpSt_same rfl ?_
    go_big_quiet_step (fail)
    refine wpQuiet_nil ?_
    refine wpSt_nil ?_
    rintro _ ⟨y, rfl⟩
    go_wp2
    go_ret3
    refine ⟨rfl, ?_⟩
    exact (Mod.setCell (Mod.setCell (Mod.setCell HY.out _ _ (fun h => absurd h (by simp only []; omega))) _ _ (fun h => absurd h (by simp only []; omega))) _ _ (fun h => absurd h (by simp only []; omega))).trans (over_mod _ _ _) (fun _ _ h => h)

end Go.Proofs.Ytgofngilfdnakaa
