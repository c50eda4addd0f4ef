/-
  This text proves what the package cupelref02's Reader and Unframe compute: of texts of at most 2^46 bytes.
-/
import Derived.Test.YtgofngilfdnakaaRef
import Derived.Test.YtgofngilfdnakaaUnframe
namespace Go.Proofs.Ytgofngilfdnakaa
open Go Go.RowKit
attribute [local go_sem] over_cell over_frozen lt_over le_over noB loudUpon ByteArray.mk_append_mk ByteArray.extract_mk drop_full

/-- A reader as a value. -/
def rdv (r : Rd) : Value := .agg #[.string ⟨r.rest.toArray⟩, .int .i64 r.took, .int .i64 r.e]

set_option maxRecDepth 100000 in
set_option maxHeartbeats 400000 in
theorem RefFail_calls (r : Rd) (e : Int) (w : World) :
    Calls Try.prog 128 #[.agg #[.string ⟨r.rest.toArray⟩, .int .i64 r.took, .int .i64 r.e], .int .i64 e] w fun e' w' => e' = .returned (rdv ⟨[], r.took, e⟩) ∧ Mod NoB w w' := by
  unfold rdv
  go_enter Try.func128, Try.ntmps128
  go_wp2
  refine bodyPost_ret (by simp [results, Try.f128, go_sem]; rfl) rfl ?_
  refine ⟨rfl, ?_⟩
  (repeat (first | exact Mod.refl _ _ | refine Mod.drew ?_ | refine Mod.drewN _ ?_ | refine Mod.alloc ?_ _ | refine Mod.setCell ?_ _ _ (fun _ => rfl) | refine Mod.over' ?_ _ (fun _ _ h => h) | refine Mod.over' ?_ _ (fun _ _ h => h.elim)))

set_option maxRecDepth 100000 in
set_option maxHeartbeats 800000 in
theorem RefBytes_calls (r : Rd) (n : Nat) (w : World) (h2 : n ≤ 4294967296) (h3 : r.took ≤ 140737488351232) :
    Calls Try.prog 127 #[.agg #[.string ⟨r.rest.toArray⟩, .int .i64 r.took, .int .i64 r.e], .int .i64 n] w fun e' w' => e' = .returned (.tuple #[rdv (r.bytes n).2, .string ⟨(r.bytes n).1.toArray⟩]) ∧ Mod NoB w w' := by
  unfold Rd.bytes
  by_cases he : r.e = 0
  · by_cases hn : n > r.rest.length
    · rw [if_pos hn]
      have hf : r.fail 4 = ⟨[], r.took, 4⟩ := by unfold Rd.fail; rw [if_pos ⟨he, by decide⟩]
      rw [hf, he]
      clear hf he
      have HF : Hid (∀ X, Calls Try.prog 128 #[.agg #[.string ⟨r.rest.toArray⟩, .int .i64 r.took, .int .i64 0], .int .i64 4] X fun e' w' => e' = .returned (rdv ⟨[], r.took, 4⟩) ∧ Mod NoB X w') := fun X => RefFail_calls { r with e := 0 } 4 X
      unfold rdv at HF ⊢
      go_enter Try.func127, Try.ntmps127
      go_wp2_with fail
      refine (HF.out _).mono ?_
      rintro e w1 ⟨rfl, hm⟩
      obtain ⟨y, rfl⟩ := hm.over
      go_wp2_with fail
      refine bodyPost_ret (by simp [results, Try.f127, go_sem]; rfl) rfl ?_
      refine ⟨rfl, ?_⟩
      (repeat (first | exact HX.out | exact Mod.refl _ _ | refine Mod.drew ?_ | refine Mod.drewN _ ?_ | refine Mod.alloc ?_ _ | refine Mod.setCell ?_ _ _ (fun h => absurd h (by simp only []; omega)) | refine Mod.over' ?_ _ (fun _ _ h => h) | refine Mod.over' ?_ _ (fun _ _ h => h.elim)))
    · rw [if_neg hn, if_neg (by simpa using he), he]
      have he' : Hid (r.e = 0) := he
      clear he
      unfold rdv
      go_enter Try.func127, Try.ntmps127
      go_wp2
      refine wp_region_staged [⟨0, 0, false⟩, ⟨0, 0, false⟩, ⟨0, 0, false⟩, ⟨0, 0, false⟩, ⟨0, 0, false⟩, ⟨0, 0, false⟩, ⟨0, 0, false⟩, ⟨0, 0, false⟩, ⟨0, 0, false⟩, ⟨0, 1, false⟩, ⟨0, 1, false⟩, ⟨0, 1, false⟩, ⟨0, 1, false⟩, ⟨0, 0, true⟩, ⟨1, 1, false⟩] 1 (clsOf ((fun W : World => [fun w' => ∃ x, w' = over W NoB x, fun w' => ∃ x, w' = (((over W NoB x).setCell ⟨w.heap.size + 1, 0, none⟩ (.string ⟨(r.rest.drop n).toArray⟩)).setCell ⟨w.heap.size + 1, 1, none⟩ (.int .i64 (r.took + n))).setCell ⟨w.heap.size + 1, 2, none⟩ (.int .i64 0)]) _)) (by kernel_rfl) (by kernel_rfl) (by first | exact Cls.drew _ _ | exact ⟨(), rfl⟩) ?_
      refine wpSt_same rfl ?_
      go_big_quiet_step (fail)
      refine wpQuiet_nil ?_
      refine wpSt_same rfl ?_
      go_big_quiet_step (fail)
      refine wpQuiet_nil ?_
      refine wpSt_same rfl ?_
      go_big_quiet_step (fail)
      refine wpQuiet_nil ?_
      refine wpSt_same rfl ?_
      go_big_quiet_step (fail)
      refine wpQuiet_nil ?_
      refine wpSt_same rfl ?_
      go_big_quiet_step (fail)
      refine wpQuiet_nil ?_
      refine wpSt_same rfl ?_
      go_big_quiet_step (fail)
      refine wpQuiet_nil ?_
      refine wpSt_same rfl ?_
      go_big_quiet_step (fail)
      refine wpQuiet_nil ?_
      refine wpSt_same rfl ?_
      go_big_quiet_step (fail)
      refine wpQuiet_nil ?_
      refine wpSt_same rfl ?_
      go_big_quiet_step (fail)
      refine wpQuiet_nil ?_
      refine wpSt_two rfl rfl ⟨_, rfl, by simp⟩ ?_
      go_big_quiet_step (fail)
      refine wpQuiet_nil ?_
      go_big_quiet_step (fail)
      refine wpQuiet_nil ?_
      refine ⟨rfl, ?_⟩
      refine wpSt_two rfl rfl ⟨_, rfl, by simp⟩ ?_
      go_big_quiet_step (fail)
      refine wpQuiet_nil ?_
      go_big_quiet_step (fail)
      refine wpQuiet_nil ?_
      refine ⟨rfl, ?_⟩
      refine wpSt_two rfl rfl ⟨_, rfl, by simp⟩ ?_
      go_big_quiet_step (fail)
      refine wpQuiet_nil ?_
      go_big_quiet_step (fail)
      refine wpQuiet_nil ?_
      refine ⟨rfl, ?_⟩
      refine wpSt_two rfl rfl ⟨_, rfl, by simp⟩ ?_
      go_big_quiet_step (fail)
      refine wpQuiet_nil ?_
      go_big_quiet_step (fail)
      refine wpQuiet_nil ?_
      refine ⟨rfl, ?_⟩
      refine wpSt_store rfl rfl rfl rfl ?_ ?_
      · (rintro _ ⟨x, rfl⟩; unfold loudAt; go_simp; first | done | exact ⟨_, rfl⟩)
      refine wpSt_same rfl ?_
      go_big_quiet_step (fail)
      refine wpQuiet_nil ?_
      refine wpSt_nil ?_
      rintro _ ⟨y, rfl⟩
      go_wp2
      refine bodyPost_ret (by simp [results, Try.f127, go_sem]; rfl) rfl ?_
      refine ⟨rfl, ?_⟩
      (repeat (first | exact HX.out | exact Mod.refl _ _ | refine Mod.drew ?_ | refine Mod.drewN _ ?_ | refine Mod.alloc ?_ _ | refine Mod.setCell ?_ _ _ (fun h => absurd h (by simp only []; omega)) | refine Mod.over' ?_ _ (fun _ _ h => h) | refine Mod.over' ?_ _ (fun _ _ h => h.elim)))
  · have hf : r.fail 4 = r := by unfold Rd.fail; rw [if_neg (fun h => he h.1)]
    have hres : (if n > r.rest.length then (([] : Str), r.fail 4) else if r.e ≠ 0 then ([], r) else (r.rest.take n, { rest := r.rest.drop n, took := r.took + n, e := 0 })) = ([], r) := by
      rw [hf, if_pos he]
      split <;> rfl
    rw [hres]
    have he' : (r.e != 0) = true := by simpa using he
    clear hres hf
    have HE := Lib.hid he; clear he
    unfold rdv
    go_enter Try.func127, Try.ntmps127
    go_wp2
    refine bodyPost_ret (by simp [results, Try.f127, go_sem]; rfl) rfl ?_
    refine ⟨rfl, ?_⟩
    (repeat (first | exact HX.out | exact Mod.refl _ _ | refine Mod.drew ?_ | refine Mod.drewN _ ?_ | refine Mod.alloc ?_ _ | refine Mod.setCell ?_ _ _ (fun h => absurd h (by simp only []; omega)) | refine Mod.over' ?_ _ (fun _ _ h => h) | refine Mod.over' ?_ _ (fun _ _ h => h.elim)))

theorem Rd.bytes_le (r : Rd) (n : Nat) : (r.bytes n).1.length ≤ n := by
  unfold Rd.bytes
  split
  · simp
  · split
    · simp
    · simp only [List.length_take]; omega
theorem Rd.number_none {r : Rd} {n : Nat} (h : (r.number n).2.e ≠ 0) : (r.number n).1 = 0 := by
  have := Rd.bytes_none (r := r) (n := n) h
  unfold Rd.number
  rw [this]
  rfl
theorem ofLE_drop (s : Str) (k : Nat) (h : k < s.length) : ofLE (s.drop k) = (s[k]?.getD 0).toNat + 256 * ofLE (s.drop (k + 1)) := by
  rw [List.drop_eq_getElem_cons h, ofLE, List.getElem?_eq_getElem h]
  rfl

set_option maxRecDepth 100000 in
set_option maxHeartbeats 800000 in
theorem RefRNumber_calls (r : Rd) (w : World) (h3 : r.took ≤ 140737488351232) :
    Calls Try.prog 86 #[.agg #[.string ⟨r.rest.toArray⟩, .int .i64 r.took, .int .i64 r.e], .int .i64 4] w fun e' w' => e' = .returned (.tuple #[rdv (r.number 4).2, .int .u64 (r.number 4).1]) ∧ Mod NoB w w' := by
  have HBY := Lib.hid (fun X => RefBytes_calls r 4 X (by omega) h3)
  have hle := r.bytes_le 4
  unfold Rd.number
  simp only
  generalize r.bytes 4 = q at *
  obtain ⟨s, r2⟩ := q
  simp only at hle HBY ⊢
  unfold rdv at HBY ⊢
  by_cases he : r.e = 0
  · have he' : (r.e == 0) = true := by simpa using he
    have HE := Lib.hid he; clear he
    go_enter Try.func86, Try.ntmps86
    go_wp2_with fail
    refine (HBY.out _).mono ?_
    rintro e w1 ⟨rfl, hm⟩
    have hsz := hm.size
    simp only [World.size_alloc] at hsz
    obtain ⟨y, rfl⟩ := hm.over
    clear hm
    go_wp2_with fail
    go_loop [8, 9] (fun n i => ∃ k : Nat, k ≤ s.length ∧ i = .int .i64 ((k : Int) - 1) ∧ n = .int .u64 (ofLE (s.drop k))) (fun _ i => (intOf i + 1).toNat)
    case atStart => exact ⟨s.length, Nat.le_refl _, rfl, by rw [List.drop_length]; rfl⟩
    case round =>
      obtain ⟨k, hk, rfl, rfl⟩ := hrel
      have hlt := ofLE_lt (s.drop k)
      rw [List.length_drop] at hlt
      have hp : 256 ^ (s.length - k) ≤ 256 ^ 4 := Nat.pow_le_pow_right (by omega) (by omega)
      have hb : ofLE (s.drop k) < 4294967296 := Nat.lt_of_lt_of_le hlt hp
      clear hlt hp
      cases k with
      | zero =>
        rw [show (((0 : Nat) : Int) - 1) = -1 from rfl]
        rw [List.drop_zero] at hb ⊢
        go_wp2
        refine bodyPost_ret (by simp [results, Try.f86, go_sem]; rfl) rfl ?_
        refine ⟨rfl, ?_⟩
        (repeat (first | exact HX.out | exact Mod.refl _ _ | refine Mod.drew ?_ | refine Mod.drewN _ ?_ | refine Mod.alloc ?_ _ | refine Mod.setCell ?_ _ _ (fun h => absurd h (by simp only []; omega)) | refine Mod.over' ?_ _ (fun _ _ h => h) | refine Mod.over' ?_ _ (fun _ _ h => h.elim)))
      | succ j =>
        rw [show (((j + 1 : Nat) : Int) - 1) = (j : Int) by omega]
        have hj : j < s.length := by omega
        have hd := ofLE_drop s j hj
        have hl2 := ofLE_lt (s.drop j)
        rw [List.length_drop] at hl2
        have hp2 : 256 ^ (s.length - j) ≤ 256 ^ 4 := Nat.pow_le_pow_right (by omega) (by omega)
        have hb2 : ofLE (s.drop j) < 4294967296 := Nat.lt_of_lt_of_le hl2 hp2
        have hix : (⟨s.toArray⟩ : ByteArray)[j]'(by simpa [ByteArray.size] using hj) = s[j]?.getD 0 := by
          rw [List.getElem?_eq_getElem hj]; rfl
        have hcl := (s[j]?.getD 0).toNat_lt
        generalize s[j]?.getD 0 = c at *
        generalize ofLE (s.drop (j + 1)) = o1 at *
        have HD := Lib.hid hd
        clear hd hl2 hp2
        go_wp2
        go_round
        case rel => exact ⟨j, by omega, rfl, by rw [HD.out]; go_num⟩
        case measure => simp [intOf]
  · have he' : (r.e == 0) = false := by simpa using he
    have HE := Lib.hid he; clear he
    go_enter Try.func86, Try.ntmps86
    go_wp2_with fail
    refine (HBY.out _).mono ?_
    rintro e w1 ⟨rfl, hm⟩
    have hsz := hm.size
    simp only [World.size_alloc] at hsz
    obtain ⟨y, rfl⟩ := hm.over
    clear hm
    go_wp2_with fail
    go_loop [8, 9] (fun n i => ∃ k : Nat, k ≤ s.length ∧ i = .int .i64 ((k : Int) - 1) ∧ n = .int .u64 (ofLE (s.drop k))) (fun _ i => (intOf i + 1).toNat)
    case atStart => exact ⟨s.length, Nat.le_refl _, rfl, by rw [List.drop_length]; rfl⟩
    case round =>
      obtain ⟨k, hk, rfl, rfl⟩ := hrel
      have hlt := ofLE_lt (s.drop k)
      rw [List.length_drop] at hlt
      have hp : 256 ^ (s.length - k) ≤ 256 ^ 4 := Nat.pow_le_pow_right (by omega) (by omega)
      have hb : ofLE (s.drop k) < 4294967296 := Nat.lt_of_lt_of_le hlt hp
      clear hlt hp
      cases k with
      | zero =>
        rw [show (((0 : Nat) : Int) - 1) = -1 from rfl]
        rw [List.drop_zero] at hb ⊢
        go_wp2
        refine bodyPost_ret (by simp [results, Try.f86, go_sem]; rfl) rfl ?_
        refine ⟨rfl, ?_⟩
        (repeat (first | exact HX.out | exact Mod.refl _ _ | refine Mod.drew ?_ | refine Mod.drewN _ ?_ | refine Mod.alloc ?_ _ | refine Mod.setCell ?_ _ _ (fun h => absurd h (by simp only []; omega)) | refine Mod.over' ?_ _ (fun _ _ h => h) | refine Mod.over' ?_ _ (fun _ _ h => h.elim)))
      | succ j =>
        rw [show (((j + 1 : Nat) : Int) - 1) = (j : Int) by omega]
        have hj : j < s.length := by omega
        have hd := ofLE_drop s j hj
        have hl2 := ofLE_lt (s.drop j)
        rw [List.length_drop] at hl2
        have hp2 : 256 ^ (s.length - j) ≤ 256 ^ 4 := Nat.pow_le_pow_right (by omega) (by omega)
        have hb2 : ofLE (s.drop j) < 4294967296 := Nat.lt_of_lt_of_le hl2 hp2
        have hix : (⟨s.toArray⟩ : ByteArray)[j]'(by simpa [ByteArray.size] using hj) = s[j]?.getD 0 := by
          rw [List.getElem?_eq_getElem hj]; rfl
        have hcl := (s[j]?.getD 0).toNat_lt
        generalize s[j]?.getD 0 = c at *
        generalize ofLE (s.drop (j + 1)) = o1 at *
        have HD := Lib.hid hd
        clear hd hl2 hp2
        go_wp2
        go_round
        case rel => exact ⟨j, by omega, rfl, by rw [HD.out]; go_num⟩
        case measure => simp [intOf]

theorem Rd.bytes_took (r : Rd) (n : Nat) : (r.bytes n).2.took ≤ r.took + n := by
  unfold Rd.bytes
  split
  · rw [Rd.fail_took]; omega
  · split
    · simp only; omega
    · simp only; omega

theorem count_le (r : Rd) (m : Nat) : (r.count m).1 ≤ m := by
  unfold Rd.count
  split
  · simp
  · omega
theorem count_took (r : Rd) (m : Nat) : (r.count m).2.took ≤ r.took + 4 := by
  have := r.bytes_took 4
  unfold Rd.count
  split
  · rw [Rd.fail_took]; exact this
  · exact this

set_option maxRecDepth 100000 in
set_option maxHeartbeats 800000 in
theorem RefCount_calls (r : Rd) (w : World) (h3 : r.took ≤ 70368744177664) :
    Calls Try.prog 126 #[.agg #[.string ⟨r.rest.toArray⟩, .int .i64 r.took, .int .i64 r.e], .int .i64 2147483647] w fun e' w' => e' = .returned (.tuple #[rdv (r.count 2147483647).2, .int .i64 (r.count 2147483647).1]) ∧ Mod NoB w w' := by
  have HNU := Lib.hid (fun X => RefRNumber_calls r X (by omega))
  have hnone := @Rd.number_none r 4
  have hl := number_lt r 4
  unfold Rd.count
  generalize r.number 4 = q at *
  obtain ⟨n, r2⟩ := q
  simp only at hnone hl HNU ⊢
  by_cases he : r2.e = 0
  · by_cases hn : n > 2147483647
    · rw [if_pos hn]
      have hf : r2.fail 3 = ⟨[], r2.took, 3⟩ := by unfold Rd.fail; rw [if_pos ⟨he, by decide⟩]
      rw [hf]
      have HF : Hid (∀ X, Calls Try.prog 128 #[.agg #[.string ⟨r2.rest.toArray⟩, .int .i64 r2.took, .int .i64 0], .int .i64 3] X fun e' w' => e' = .returned (rdv ⟨[], r2.took, 3⟩) ∧ Mod NoB X w') := fun X => RefFail_calls { r2 with e := 0 } 3 X
      simp only [rdv, he] at HNU HF ⊢
      clear hnone hf he
      go_enter Try.func126, Try.ntmps126
      go_wp2_with fail
      refine (HNU.out _).mono ?_
      rintro e X ⟨rfl, hm⟩
      have HX : Hid (Mod NoB w X) := (((Mod.refl NoB w).alloc _).alloc _).trans hm (fun _ _ h => h)
      have hres : X.heap[w.heap.size + 1]? = some (.cells #[.string ⟨#[]⟩, .int .i64 0, .int .i64 0] 141 (0, 0)) := by
        rw [hm.block _ (by simp only [World.size_alloc]; omega) id]
        have := heap_alloc_new (w.alloc (.cells #[.string ⟨r.rest.toArray⟩, .int .i64 r.took, .int .i64 r.e] 141)) (.cells #[.string ⟨#[]⟩, .int .i64 0, .int .i64 0] 141)
        rwa [World.size_alloc] at this
      have hxl := lt_heap hres
      have hx0 := cell_heap hres 0
      have hx1 := cell_heap hres 1
      have hx2 := cell_heap hres 2
      have hxf := frozen_heap hres
      simp only [List.getElem?_toArray, List.getElem?_cons_zero, List.getElem?_cons_succ] at hx0 hx1 hx2
      clear hm hres
      go_wp2_with fail
      refine (HF.out _).mono ?_
      rintro e Y ⟨rfl, hm2⟩
      have hym : Mod NoB X Y := ((Mod.refl NoB X).alloc _).trans hm2 (fun _ _ h => h)
      have HX := Lib.hid (HX.out.trans hym (fun _ _ h => h))
      have hyl := Nat.lt_of_lt_of_le hxl hym.size
      rw [← World.cell?_of_block (w := X) (hym.block _ hxl id)] at hx0 hx1 hx2
      have hyf : ∀ i, Y.frozen? ⟨w.heap.size + 1, i, none⟩ = false := fun i => (World.frozen?_of_block (w := X) (hym.block _ hxl id)).trans (hxf i)
      clear hm2 hym hxf
      go_wp2_with fail
      refine bodyPost_ret (by simp [results, Try.f126, go_sem, hx0, hx1, hx2]; rfl) rfl ?_
      refine ⟨rfl, ?_⟩
      (repeat (first | exact HX.out | exact Mod.refl _ _ | refine Mod.drew ?_ | refine Mod.drewN _ ?_ | refine Mod.alloc ?_ _ | refine Mod.setCell ?_ _ _ (fun h => absurd h (by simp only []; omega)) | refine Mod.over' ?_ _ (fun _ _ h => h) | refine Mod.over' ?_ _ (fun _ _ h => h.elim)))
    · rw [if_neg hn]
      simp only [rdv, he] at HNU ⊢
      clear hnone he
      go_enter Try.func126, Try.ntmps126
      go_wp2_with fail
      refine (HNU.out _).mono ?_
      rintro e X ⟨rfl, hm⟩
      have HX : Hid (Mod NoB w X) := (((Mod.refl NoB w).alloc _).alloc _).trans hm (fun _ _ h => h)
      have hres : X.heap[w.heap.size + 1]? = some (.cells #[.string ⟨#[]⟩, .int .i64 0, .int .i64 0] 141 (0, 0)) := by
        rw [hm.block _ (by simp only [World.size_alloc]; omega) id]
        have := heap_alloc_new (w.alloc (.cells #[.string ⟨r.rest.toArray⟩, .int .i64 r.took, .int .i64 r.e] 141)) (.cells #[.string ⟨#[]⟩, .int .i64 0, .int .i64 0] 141)
        rwa [World.size_alloc] at this
      have hxl := lt_heap hres
      have hx0 := cell_heap hres 0
      have hx1 := cell_heap hres 1
      have hx2 := cell_heap hres 2
      have hxf := frozen_heap hres
      simp only [List.getElem?_toArray, List.getElem?_cons_zero, List.getElem?_cons_succ] at hx0 hx1 hx2
      clear hm hres
      go_wp2_with fail
      refine bodyPost_ret (by simp [results, Try.f126, go_sem, hx0, hx1, hx2, hxl]; rfl) rfl ?_
      refine ⟨rfl, ?_⟩
      (repeat (first | exact HX.out | exact Mod.refl _ _ | refine Mod.drew ?_ | refine Mod.drewN _ ?_ | refine Mod.alloc ?_ _ | refine Mod.setCell ?_ _ _ (fun h => absurd h (by simp only []; omega)) | refine Mod.over' ?_ _ (fun _ _ h => h) | refine Mod.over' ?_ _ (fun _ _ h => h.elim)))
  · have hn0 : n = 0 := hnone he
    subst hn0
    rw [if_neg (by omega)]
    have he' : (r2.e == 0) = false := by simpa using he
    unfold rdv at HNU ⊢
    have HE := Lib.hid he; clear he hnone
    go_enter Try.func126, Try.ntmps126
    go_wp2_with fail
    refine (HNU.out _).mono ?_
    rintro e X ⟨rfl, hm⟩
    have HX : Hid (Mod NoB w X) := (((Mod.refl NoB w).alloc _).alloc _).trans hm (fun _ _ h => h)
    have hres : X.heap[w.heap.size + 1]? = some (.cells #[.string ⟨#[]⟩, .int .i64 0, .int .i64 0] 141 (0, 0)) := by
      rw [hm.block _ (by simp only [World.size_alloc]; omega) id]
      have := heap_alloc_new (w.alloc (.cells #[.string ⟨r.rest.toArray⟩, .int .i64 r.took, .int .i64 r.e] 141)) (.cells #[.string ⟨#[]⟩, .int .i64 0, .int .i64 0] 141)
      rwa [World.size_alloc] at this
    have hxl := lt_heap hres
    have hx0 := cell_heap hres 0
    have hx1 := cell_heap hres 1
    have hx2 := cell_heap hres 2
    have hxf := frozen_heap hres
    simp only [List.getElem?_toArray, List.getElem?_cons_zero, List.getElem?_cons_succ] at hx0 hx1 hx2
    clear hm hres
    go_wp2_with fail
    refine bodyPost_ret (by simp [results, Try.f126, go_sem, hx0, hx1, hx2, hxl]; rfl) rfl ?_
    refine ⟨rfl, ?_⟩
    (repeat (first | exact HX.out | exact Mod.refl _ _ | refine Mod.drew ?_ | refine Mod.drewN _ ?_ | refine Mod.alloc ?_ _ | refine Mod.setCell ?_ _ _ (fun h => absurd h (by simp only []; omega)) | refine Mod.over' ?_ _ (fun _ _ h => h) | refine Mod.over' ?_ _ (fun _ _ h => h.elim)))

set_option maxRecDepth 100000 in
set_option maxHeartbeats 800000 in
theorem RefRText_calls (r : Rd) (w : World) (h3 : r.took ≤ 70368744177664) :
    Calls Try.prog 85 #[.agg #[.string ⟨r.rest.toArray⟩, .int .i64 r.took, .int .i64 r.e], .int .i64 2147483647] w fun e' w' => e' = .returned (.tuple #[rdv (r.text 2147483647).2, .string ⟨(r.text 2147483647).1.toArray⟩]) ∧ Mod NoB w w' := by
  have HCO := Lib.hid (fun X => RefCount_calls r X h3)
  have hl := count_le r 2147483647
  have ht := count_took r 2147483647
  unfold Rd.text
  generalize r.count 2147483647 = q at *
  obtain ⟨n, r2⟩ := q
  simp only at hl ht HCO ⊢
  have HBY := Lib.hid (fun X => RefBytes_calls r2 n X (by omega) (by omega))
  generalize r2.bytes n = q at *
  obtain ⟨s, r3⟩ := q
  unfold rdv at HCO HBY ⊢
  go_enter Try.func85, Try.ntmps85
  go_wp2_with fail
  refine (HCO.out _).mono ?_
  rintro e X ⟨rfl, hm⟩
  have HX : Hid (Mod NoB w X) := (((Mod.refl NoB w).alloc _).alloc _).trans hm (fun _ _ h => h)
  have hres : X.heap[w.heap.size + 1]? = some (.cells #[.string ⟨#[]⟩, .int .i64 0, .int .i64 0] 141 (0, 0)) := by
    rw [hm.block _ (by simp only [World.size_alloc]; omega) id]
    have := heap_alloc_new (w.alloc (.cells #[.string ⟨r.rest.toArray⟩, .int .i64 r.took, .int .i64 r.e] 141)) (.cells #[.string ⟨#[]⟩, .int .i64 0, .int .i64 0] 141)
    rwa [World.size_alloc] at this
  have hxl := lt_heap hres
  have hx0 := cell_heap hres 0
  have hx1 := cell_heap hres 1
  have hx2 := cell_heap hres 2
  have hxf := frozen_heap hres
  simp only [List.getElem?_toArray, List.getElem?_cons_zero, List.getElem?_cons_succ] at hx0 hx1 hx2
  clear hm hres
  go_wp2_with fail
  refine (HBY.out _).mono ?_
  rintro e Y ⟨rfl, hm2⟩
  have hym : Mod NoB X Y := ((Mod.refl NoB X).alloc _).trans hm2 (fun _ _ h => h)
  have HX := Lib.hid (HX.out.trans hym (fun _ _ h => h))
  have hyl := Nat.lt_of_lt_of_le hxl hym.size
  rw [← World.cell?_of_block (w := X) (hym.block _ hxl id)] at hx0 hx1 hx2
  have hyf : ∀ i, Y.frozen? ⟨w.heap.size + 1, i, none⟩ = false := fun i => (World.frozen?_of_block (w := X) (hym.block _ hxl id)).trans (hxf i)
  clear hm2 hym hxf
  go_wp2_with fail
  refine bodyPost_ret (by simp [results, Try.f85, go_sem, hx0, hx1, hx2]; rfl) rfl ?_
  refine ⟨rfl, ?_⟩
  (repeat (first | exact HX.out | exact Mod.refl _ _ | refine Mod.drew ?_ | refine Mod.drewN _ ?_ | refine Mod.alloc ?_ _ | refine Mod.setCell ?_ _ _ (fun h => absurd h (by simp only []; omega)) | refine Mod.over' ?_ _ (fun _ _ h => h) | refine Mod.over' ?_ _ (fun _ _ h => h.elim)))

end Go.Proofs.Ytgofngilfdnakaa
