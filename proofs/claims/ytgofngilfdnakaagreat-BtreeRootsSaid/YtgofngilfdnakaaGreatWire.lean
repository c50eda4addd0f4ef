/-
  This text proves what the package wire's functions compute, said of whole bytes: Adler, Frame, the reader's methods, Unframe; each under bounds on lengths that the callers meet.
-/
import Derived.Test.YtgofngilfdnakaaGreatStage
import Derived.Test.YtgofngilfdnakaaGreatWireP
import Derived.Test.YtgofngilfdnakaaGreatProg
import Derived.Laws.BitsAllLaws
import Derived.Lib.Hide
import Derived.Lib.ConvBytes
namespace Go.Proofs.YtgofngilfdnakaaGreat
open Go Go.RowKit
attribute [local go_sem] over_cell over_frozen lt_over le_over noB loudUpon

theorem mod_bytesWorld (F : Nat → Prop) (w : World) (e : TypeId) (s : ByteArray) : Mod F w (Lib.bytesWorld w e s) :=
  ⟨rfl, rfl, rfl, by rw [Lib.bytesWorld_size]; omega, fun k hk _ => Lib.bytesWorld_at_old w e s k hk⟩

theorem take_snoc' (s : Str) (k : Nat) (h : k < s.length) : s.take (k + 1) = s.take k ++ [s[k]?.getD 0] := by
  rw [List.take_succ_eq_append_getElem h, List.getElem?_eq_getElem h]
  rfl

set_option maxHeartbeats 400000 in
theorem Adler_calls (s : Str) (w : World) (hs : s.length ≤ 140737488351232) :
    Calls Tryz.prog 128 #[.string ⟨s.toArray⟩] w fun e w' => e = .returned (.int .u32 (adler s)) ∧ Mod NoB w w' := by
  have hc := Lib.run_convert_string_bytes (P := Tryz.prog) w 9 166 5 ⟨s.toArray⟩ Tryz.underlying9 Tryz.underlying166 Tryz.underlying5
  have hm := mod_bytesWorld NoB w 5 ⟨s.toArray⟩
  have hcell : ∀ j, j < s.length → (Lib.bytesWorld w 5 ⟨s.toArray⟩).cell? ⟨w.heap.size, j, none⟩ = some (.int .u8 ((s[j]?.getD 0).toNat : Int)) := fun j hj => by
    rw [Lib.bytesWorld_cell w 5 ⟨s.toArray⟩ j (by simpa [ByteArray.size] using hj)]
    simp [List.getD]
  generalize Lib.bytesWorld w 5 ⟨s.toArray⟩ = W at *
  have HM := Lib.hid hm; clear hm
  have HC := Lib.hid hcell; clear hcell
  go_enter Tryz.func128, Tryz.ntmps128
  go_wp2
  go_loop [3, 4, 10] (fun x y i => ∃ (k a b : Nat), k ≤ s.length ∧ i = .int .i64 k ∧ x = .int .u32 a ∧ y = .int .u32 b ∧ a < 65521 ∧ b < 65521 ∧ Hid (adl (1, 0) (s.take k) = (a, b))) (fun _ _ i => s.length - (intOf i).toNat)
  case atStart => exact ⟨0, 1, 0, by omega, rfl, rfl, rfl, by omega, by omega, by simp [Hid, adl]⟩
  case round =>
    obtain ⟨k, a, b, hk, rfl, rfl, rfl, ha, hb, H⟩ := hrel
    by_cases hlt : k < s.length
    · have hcell := HC.out k hlt
      have hsn := take_snoc' s k hlt
      have hadl := adl_snoc (1, 0) (s.take k) (s[k]?.getD 0)
      rw [← hsn, H.out] at hadl
      have hcl := (s[k]?.getD 0).toNat_lt
      generalize s[k]?.getD 0 = c at *
      have HN := Lib.hid hadl; clear hadl hsn
      go_wp2
      go_round
      case rel => exact ⟨k + 1, (a + c.toNat) % 65521, (b + (a + c.toNat) % 65521) % 65521, by omega, by go_num, by go_num, by go_num, by omega, by omega, HN⟩
      case measure => simp [intOf]; omega
    · go_wp2
      go_ret
      have hk' : k = s.length := by omega
      have h1 := H.out
      rw [hk', List.take_length] at h1
      refine ⟨?_, HM.out⟩
      show Ending.returned (.int .u32 (bits .or .u32 ((b : Int) * 65536) (a : Int))) = _
      have h2 : ((b : Int) * 65536) = ((b * 65536 : Nat) : Int) := by omega
      rw [h2, u32_or_nat _ _ (by omega) (by omega), adler, h1]
      have h3 := Nat.two_pow_add_eq_or_of_lt (i := 16) (b := a) (by omega) b
      simp only [Nat.reducePow] at h3
      rw [Nat.mul_comm b 65536, ← h3]

/-- What lies in Number's row behind k rounds. -/
def numRow (n : Nat) (B k : Nat) : Array Value := ((numLE n k).map (fun c => Value.int .u8 (c.toNat : Int)) ++ List.replicate (B - k) (Value.int .u8 0)).toArray
theorem numLE_snoc (n k : Nat) : numLE n (k + 1) = numLE n k ++ [UInt8.ofNat (n / 256 ^ k % 256)] := by
  induction k generalizing n with
  | zero => simp [numLE]
  | succ k ih =>
    rw [numLE, ih, numLE, List.cons_append, Nat.div_div_eq_div_mul, Nat.pow_succ, Nat.mul_comm 256]
theorem numRow_set (n B k : Nat) (h : k < B) : (numRow n B k).setIfInBounds k (.int .u8 ((n / 256 ^ k : Nat) % 256 : Int)) = numRow n B (k + 1) := by
  have hl : ((numLE n k).map (fun c => Value.int .u8 (c.toNat : Int))).length = k := by simp [numLE_length]
  have e : List.replicate (B - k) (Value.int .u8 0) = Value.int .u8 0 :: List.replicate (B - (k + 1)) (Value.int .u8 0) := by
    rw [show B - k = (B - (k + 1)) + 1 by omega, List.replicate_succ]
  have e2 : (((UInt8.ofNat (n / 256 ^ k % 256)).toNat : Nat) : Int) = ((n / 256 ^ k : Nat) % 256 : Int) := by simp
  unfold numRow
  rw [List.setIfInBounds_toArray, List.set_append_right _ _ (by omega), hl, Nat.sub_self, e, List.set_cons_zero, numLE_snoc, List.map_append, List.append_assoc, List.map_singleton, e2]
  rfl
theorem numRow_size (n B k : Nat) (h : k ≤ B) : (numRow n B k).size = B := by
  simp [numRow, numLE_length]; omega
theorem strOfNums_bytes (l : Str) : strOfNums (l.map fun c => (c.toNat : Int)) = ⟨l.toArray⟩ := by
  simp [strOfNums, Function.comp_def]
set_option maxHeartbeats 400000 in
theorem Number4_calls (n : Nat) (w : World) (hn : n < 18446744073709551616) :
    Calls Tryz.prog 127 #[.int .u64 n, .int .i64 4] w fun e w' => e = .returned (.string ⟨(numLE n 4).toArray⟩) ∧ Mod NoB w w' := by
  have hmk : ∀ w, (Instr.makeSlice 166 (.int .i64 4) (.int .i64 4)).run Tryz.prog w = .ok (.slice (some ⟨w.heap.size, 0, none⟩) 4 4) (w.alloc (.cells (numRow n 4 0) 5)) := fun _ => by kernel_rfl
  go_enter Tryz.func127, Tryz.ntmps127
  go_wp2
  go_loopw [0, 13] (fun m i wr => ∃ k q : Nat, k ≤ 4 ∧ i = .int .i64 k ∧ m = .int .u64 q ∧ q < 18446744073709551616 ∧ Hid (q = n / 256 ^ k) ∧ wr = w.alloc (.cells (numRow n 4 k) 5)) (fun _ i _ => 4 - (intOf i).toNat)
  case atStart => exact ⟨0, n, by omega, rfl, rfl, hn, by simp [Hid], rfl⟩
  case round =>
    obtain ⟨k, q, hk, rfl, rfl, hq, H, rfl⟩ := hrel
    by_cases hlt : k < 4
    · have hset := numRow_set n 4 k hlt
      have hget : (numRow n 4 k)[k]? = some (.int .u8 0) := by
        have hl : ((numLE n k).map (fun c => Value.int .u8 (c.toNat : Int))).length = k := by simp [numLE_length]
        unfold numRow
        rw [List.getElem?_toArray, List.getElem?_append_right (by omega), hl, Nat.sub_self, List.getElem?_replicate, if_pos (by omega)]
      rw [← H.out] at hset
      have hnx : q / 256 = n / 256 ^ (k + 1) := by rw [H.out, Nat.div_div_eq_div_mul, Nat.pow_succ]
      have HN := Lib.hid hnx; clear hnx
      have HS := Lib.hid hset; clear hset
      generalize numRow n 4 k = C at *
      go_wp2
      go_roundw
      case rel => exact ⟨k + 1, q / 256, by omega, by go_num, by go_num, by omega, HN, by rw [← HS.out]⟩
      case measure => simp [intOf]; omega
    · obtain rfl : k = 4 := by omega
      have hcv := run_convert_bytes_arg (P := Tryz.prog) (w := w.alloc (.cells (numRow n 4 4) 5)) 166 5 Tryz.underlying166 Tryz.underlying5 w.heap.size 0 4 4 ((numLE n 4).map fun c => (c.toNat : Int)) (by simp [numLE_length]) (fun i hi => by
        rw [Nat.zero_add, World.cell?_alloc_new]
        simp [numRow, List.getD, List.getElem?_eq_getElem (show i < (numLE n 4).length by rw [numLE_length]; exact hi)]) 9 Tryz.underlying9
      rw [strOfNums_bytes] at hcv
      have hm : Mod NoB w (w.alloc (.cells (numRow n 4 4) 5)) := (Mod.refl _ _).alloc _
      have HM := Lib.hid hm; clear hm hmk
      generalize w.alloc (.cells (numRow n 4 4) 5) = W at *
      go_wp2
      go_ret
      exact ⟨rfl, HM.out⟩
set_option maxHeartbeats 400000 in
theorem Number1_calls (n : Nat) (w : World) (hn : n < 18446744073709551616) :
    Calls Tryz.prog 127 #[.int .u64 n, .int .i64 1] w fun e w' => e = .returned (.string ⟨(numLE n 1).toArray⟩) ∧ Mod NoB w w' := by
  have hmk : ∀ w, (Instr.makeSlice 166 (.int .i64 1) (.int .i64 1)).run Tryz.prog w = .ok (.slice (some ⟨w.heap.size, 0, none⟩) 1 1) (w.alloc (.cells (numRow n 1 0) 5)) := fun _ => by kernel_rfl
  go_enter Tryz.func127, Tryz.ntmps127
  go_wp2
  go_loopw [0, 13] (fun m i wr => ∃ k q : Nat, k ≤ 1 ∧ i = .int .i64 k ∧ m = .int .u64 q ∧ q < 18446744073709551616 ∧ Hid (q = n / 256 ^ k) ∧ wr = w.alloc (.cells (numRow n 1 k) 5)) (fun _ i _ => 1 - (intOf i).toNat)
  case atStart => exact ⟨0, n, by omega, rfl, rfl, hn, by simp [Hid], rfl⟩
  case round =>
    obtain ⟨k, q, hk, rfl, rfl, hq, H, rfl⟩ := hrel
    by_cases hlt : k < 1
    · have hset := numRow_set n 1 k hlt
      have hget : (numRow n 1 k)[k]? = some (.int .u8 0) := by
        have hl : ((numLE n k).map (fun c => Value.int .u8 (c.toNat : Int))).length = k := by simp [numLE_length]
        unfold numRow
        rw [List.getElem?_toArray, List.getElem?_append_right (by omega), hl, Nat.sub_self, List.getElem?_replicate, if_pos (by omega)]
      rw [← H.out] at hset
      have hnx : q / 256 = n / 256 ^ (k + 1) := by rw [H.out, Nat.div_div_eq_div_mul, Nat.pow_succ]
      have HN := Lib.hid hnx; clear hnx
      have HS := Lib.hid hset; clear hset
      generalize numRow n 1 k = C at *
      go_wp2
      go_roundw
      case rel => exact ⟨k + 1, q / 256, by omega, by go_num, by go_num, by omega, HN, by rw [← HS.out]⟩
      case measure => simp [intOf]; omega
    · obtain rfl : k = 1 := by omega
      have hcv := run_convert_bytes_arg (P := Tryz.prog) (w := w.alloc (.cells (numRow n 1 1) 5)) 166 5 Tryz.underlying166 Tryz.underlying5 w.heap.size 0 1 1 ((numLE n 1).map fun c => (c.toNat : Int)) (by simp [numLE_length]) (fun i hi => by
        rw [Nat.zero_add, World.cell?_alloc_new]
        simp [numRow, List.getD, List.getElem?_eq_getElem (show i < (numLE n 1).length by rw [numLE_length]; exact hi)]) 9 Tryz.underlying9
      rw [strOfNums_bytes] at hcv
      have hm : Mod NoB w (w.alloc (.cells (numRow n 1 1) 5)) := (Mod.refl _ _).alloc _
      have HM := Lib.hid hm; clear hm hmk
      generalize w.alloc (.cells (numRow n 1 1) 5) = W at *
      go_wp2
      go_ret
      exact ⟨rfl, HM.out⟩
attribute [local go_sem] ByteArray.mk_append_mk ByteArray.extract_mk

set_option maxHeartbeats 400000 in
theorem Frame_calls (s : Str) (w : World) (hs : s.length ≤ 70368744177664) :
    Calls Tryz.prog 84 #[.string ⟨s.toArray⟩] w fun e w' => e = .returned (.string ⟨(frame s).toArray⟩) ∧ Mod NoB w w' := by
  have hl := numLE_length s.length 4
  have ha := adler_lt (numLE s.length 4 ++ s)
  have hl2 := numLE_length (adler (numLE s.length 4 ++ s)) 4
  go_enter Tryz.func84, Tryz.ntmps84
  go_wp2_with (first | (go_at_call 127; refine (Number4_calls _ _ (by omega)).mono ?_; rintro e w' ⟨rfl, hm⟩; obtain ⟨x, rfl⟩ := hm.over) | (go_at_call 128; refine (Adler_calls _ _ (by simp; omega)).mono ?_; rintro e w' ⟨rfl, hm⟩; obtain ⟨x, rfl⟩ := hm.over))
  go_ret
  refine ⟨?_, ?_⟩
  · show Ending.returned (.string ⟨(numLE (List.length s) 4 ++ (s ++ numLE (adler (numLE (List.length s) 4 ++ s)) 4)).toArray⟩) = _
    rw [frame, text, List.append_assoc]
  · (repeat (first | exact Mod.refl _ _ | refine Mod.drew ?_ | refine Mod.drewN _ ?_ | refine Mod.alloc ?_ _ | refine Mod.setCell ?_ _ _ (fun _ => rfl) | refine Mod.over' ?_ _ (fun _ _ h => h) | refine Mod.over' ?_ _ (fun _ _ h => h.elim)))

/-- A reader in memory. -/
def RdAt (w : World) (b : Nat) (r : Rd) : Prop := w.heap[b]? = some (.cells #[.string ⟨r.rest.toArray⟩, .int .i64 r.took, .int .i64 r.e] 216 (0, 0))
theorem RdAt.facts {w : World} {b : Nat} {r : Rd} (h : RdAt w b r) : b < w.heap.size ∧ w.cell? ⟨b, 0, none⟩ = some (.string ⟨r.rest.toArray⟩) ∧ w.cell? ⟨b, 1, none⟩ = some (.int .i64 r.took) ∧
    w.cell? ⟨b, 2, none⟩ = some (.int .i64 r.e) ∧ ∀ i, w.frozen? ⟨b, i, none⟩ = false :=
  ⟨lt_heap h, cell_heap h 0, cell_heap h 1, cell_heap h 2, frozen_heap h⟩

set_option maxHeartbeats 400000 in
theorem Fail_calls (b : Nat) (r : Rd) (e : Int) (he : e ≠ 0) (w : World) (h : RdAt w b r) :
    Calls Tryz.prog 148 #[.pointer (some ⟨b, 0, none⟩), .int .i64 e] w fun e' w' => e' = .returned (.tuple #[]) ∧ Mod (fun k => k = b) w w' ∧ RdAt w' b (r.fail e) := by
  obtain ⟨hb, h0, h1, h2, hf⟩ := h.facts
  have he1 : (e == 0) = false := by simpa using he
  have he2 : (e != 0) = true := by simpa using he
  by_cases hr : r.e = 0
  · have hr1 : (r.e == 0) = true := by simpa using hr
    have HR := Lib.hid hr; clear hr
    have HE := Lib.hid he; clear he
    go_enter Tryz.func148, Tryz.ntmps148
    go_wp2
    go_end0
    refine ⟨rfl, ?_, ?_⟩
    · (repeat (first | exact Mod.refl _ _ | refine Mod.drew ?_ | refine Mod.drewN _ ?_ | refine Mod.alloc ?_ _ | refine Mod.setCell ?_ _ _ (fun _ => rfl) | refine Mod.over' ?_ _ (fun _ _ h => h) | refine Mod.over' ?_ _ (fun _ _ h => h.elim)))
    · rw [Rd.fail, if_pos ⟨HR.out, HE.out⟩]
      unfold RdAt at h ⊢
      simp [heap_setCell_same, h, setAt]
  · have hr1 : (r.e == 0) = false := by simpa using hr
    have HR := Lib.hid hr; clear hr
    go_enter Tryz.func148, Tryz.ntmps148
    go_wp2
    go_end0
    exact ⟨rfl, Mod.refl _ _, by rw [Rd.fail, if_neg (fun h => HR.out h.1)]; exact h⟩

theorem drop_full (l : Str) (n : Nat) : (l.drop n).take (l.length - n) = l.drop n := List.take_of_length_le (by simp)
attribute [local go_sem] drop_full
set_option maxRecDepth 100000 in
set_option maxHeartbeats 400000 in
theorem Bytes_calls (b : Nat) (r : Rd) (n : Nat) (w : World) (h : RdAt w b r) (hn : n ≤ 140737488351232) (h1 : r.took + r.rest.length ≤ 281474976702464) :
    Calls Tryz.prog 152 #[.pointer (some ⟨b, 0, none⟩), .int .i64 n] w fun e' w' => e' = .returned (.string ⟨(r.bytes n).1.toArray⟩) ∧ Mod (fun k => k = b) w w' ∧ RdAt w' b (r.bytes n).2 := by
  obtain ⟨hb, c0, c1, c2, hf⟩ := h.facts
  by_cases hlen : r.rest.length < n
  · have hfin : r.bytes n = ([], r.fail 4) := by
      have h2 : n > r.rest.length := by omega
      simp only [Rd.bytes, if_pos h2]
    have h3 : ((r.fail 4).e != 0) = true := by
      unfold Rd.fail
      split
      · rfl
      · rename_i hh; simp only [bne_iff_ne]; intro he; exact hh ⟨he, by decide⟩
    have HF := Lib.hid hfin; clear hfin
    have HW := Lib.hid h
    go_enter Tryz.func152, Tryz.ntmps152
    go_wp2_with fail
    refine (Fail_calls b r 4 (by decide) _ HW.out).mono ?_
    rintro e w' ⟨rfl, hm, hr⟩
    obtain ⟨hb', c0', c1', c2', hf'⟩ := hr.facts
    obtain ⟨x, rfl⟩ := hm.over
    clear HW h
    have HR := Lib.hid hr; clear hr
    generalize r.fail 4 = q at *
    go_wp2_with fail
    go_ret
    rw [HF.out]
    exact ⟨rfl, over_mod _ _ _, HR.out⟩
  · by_cases he : r.e = 0
    · have hfin : r.bytes n = (r.rest.take n, { rest := r.rest.drop n, took := r.took + n, e := 0 }) := by
        have h2 : ¬ (n > r.rest.length) := by omega
        have h3 : ¬ (r.e ≠ 0) := fun h => h he
        simp only [Rd.bytes, if_neg h2, if_neg h3]
      have he1 : (r.e != 0) = false := by simpa using he
      have HE := Lib.hid he; clear he
      have HF := Lib.hid hfin; clear hfin
      have hlen' : n ≤ r.rest.length := by omega
      go_enter Tryz.func152, Tryz.ntmps152
      go_wp2_with fail
      refine wp_region_staged [⟨0, 0, false⟩, ⟨0, 1, false⟩, ⟨0, 0, false⟩, ⟨0, 0, false⟩, ⟨0, 0, false⟩, ⟨0, 0, false⟩, ⟨0, 0, false⟩, ⟨0, 0, false⟩, ⟨0, 1, false⟩, ⟨0, 1, false⟩, ⟨0, 1, false⟩, ⟨0, 0, false⟩, ⟨0, 1, false⟩, ⟨0, 1, false⟩, ⟨0, 1, false⟩, ⟨0, 0, false⟩, ⟨0, 0, true⟩, ⟨1, 2, false⟩, ⟨1, 1, false⟩, ⟨1, 1, true⟩] 2 (clsOf ((fun W : World => [fun w' => ∃ x, w' = over W NoB x, fun w' => ∃ x, w' = (over W NoB x).setCell ⟨b, 0, none⟩ (.string ⟨(r.rest.drop n).toArray⟩), fun w' => ∃ x, w' = ((over W NoB x).setCell ⟨b, 0, none⟩ (.string ⟨(r.rest.drop n).toArray⟩)).setCell ⟨b, 1, none⟩ (.int .i64 (r.took + n))]) _)) (by kernel_rfl) (by kernel_rfl) (by first | exact Cls.drew _ _ | exact ⟨(), rfl⟩) ?_
      refine wpSt_same rfl ?_
      go_big_quiet_step (fail)
      refine wpQuiet_nil ?_
      refine wpSt_two rfl rfl ⟨_, rfl, by simp⟩ ?_
      go_big_quiet_step (fail)
      refine wpQuiet_nil ?_
      go_big_quiet_step (fail)
      refine wpQuiet_nil ?_
      refine ⟨rfl, ?_⟩
      refine wpSt_same rfl ?_
      go_big_quiet_step (fail)
      refine wpQuiet_nil ?_
      refine wpSt_same rfl ?_
      go_big_quiet_step (fail)
      refine wpQuiet_nil ?_
      refine wpSt_same rfl ?_
      go_big_quiet_step (fail)
      refine wpQuiet_nil ?_
      refine wpSt_same rfl ?_
      go_big_quiet_step (fail)
      refine wpQuiet_nil ?_
      refine wpSt_same rfl ?_
      go_big_quiet_step (fail)
      refine wpQuiet_nil ?_
      refine wpSt_same rfl ?_
      go_big_quiet_step (fail)
      refine wpQuiet_nil ?_
      refine wpSt_two rfl rfl ⟨_, rfl, by simp⟩ ?_
      go_big_quiet_step (fail)
      refine wpQuiet_nil ?_
      go_big_quiet_step (fail)
      refine wpQuiet_nil ?_
      refine ⟨rfl, ?_⟩
      refine wpSt_two rfl rfl ⟨_, rfl, by simp⟩ ?_
      go_big_quiet_step (fail)
      refine wpQuiet_nil ?_
      go_big_quiet_step (fail)
      refine wpQuiet_nil ?_
      refine ⟨rfl, ?_⟩
      refine wpSt_two rfl rfl ⟨_, rfl, by simp⟩ ?_
      go_big_quiet_step (fail)
      refine wpQuiet_nil ?_
      go_big_quiet_step (fail)
      refine wpQuiet_nil ?_
      refine ⟨rfl, ?_⟩
      refine wpSt_same rfl ?_
      go_big_quiet_step (fail)
      refine wpQuiet_nil ?_
      refine wpSt_two rfl rfl ⟨_, rfl, by simp⟩ ?_
      go_big_quiet_step (fail)
      refine wpQuiet_nil ?_
      go_big_quiet_step (fail)
      refine wpQuiet_nil ?_
      refine ⟨rfl, ?_⟩
      refine wpSt_two rfl rfl ⟨_, rfl, by simp⟩ ?_
      go_big_quiet_step (fail)
      refine wpQuiet_nil ?_
      go_big_quiet_step (fail)
      refine wpQuiet_nil ?_
      refine ⟨rfl, ?_⟩
      refine wpSt_two rfl rfl ⟨_, rfl, by simp⟩ ?_
      go_big_quiet_step (fail)
      refine wpQuiet_nil ?_
      go_big_quiet_step (fail)
      refine wpQuiet_nil ?_
      refine ⟨rfl, ?_⟩
      refine wpSt_same rfl ?_
      go_big_quiet_step (fail)
      refine wpQuiet_nil ?_
      refine wpSt_store rfl rfl rfl rfl ?_ ?_
      · (rintro _ ⟨x, rfl⟩; unfold loudAt; go_simp; first | done | exact ⟨_, rfl⟩)
      refine wpSt_two rfl rfl ⟨_, rfl, by simp⟩ ?_
      go_big_quiet_step (fail)
      refine wpQuiet_nil ?_
      go_big_quiet_step (fail)
      refine wpQuiet_nil ?_
      refine ⟨rfl, ?_⟩
      refine wpSt_same rfl ?_
      go_big_quiet_step (fail)
      refine wpQuiet_nil ?_
      refine wpSt_store rfl rfl rfl rfl ?_ ?_
      · (rintro _ ⟨x, rfl⟩; unfold loudAt; go_simp; first | done | exact ⟨_, rfl⟩)
      refine wpSt_nil ?_
      rintro _ ⟨y1, rfl⟩
      go_wp2
      go_ret
      rw [HF.out]
      refine ⟨by simp, ?_, ?_⟩
      · (repeat (first | exact Mod.refl _ _ | refine Mod.drew ?_ | refine Mod.drewN _ ?_ | refine Mod.alloc ?_ _ | refine Mod.setCell ?_ _ _ (fun _ => rfl) | refine Mod.over' ?_ _ (fun _ _ h => h) | refine Mod.over' ?_ _ (fun _ _ h => h.elim)))
      · unfold RdAt at h ⊢
        rw [HE.out] at h
        simp only [heap_setCell_same, over_heap (lt_heap h) (noB b), h, Option.map_some, setAt_cells, List.setIfInBounds_toArray, List.set_cons_zero, List.set_cons_succ]
        congr 6
    · have hfin : r.bytes n = ([], r) := by
        have h2 : ¬ (n > r.rest.length) := by omega
        simp only [Rd.bytes, if_neg h2, if_pos he]
      have he1 : (r.e != 0) = true := by simpa using he
      have HE := Lib.hid he; clear he
      have HF := Lib.hid hfin; clear hfin
      go_enter Tryz.func152, Tryz.ntmps152
      go_wp2_with fail
      go_ret
      rw [HF.out]
      exact ⟨rfl, Mod.refl _ _, h⟩

theorem ofLE_snoc (l : Str) (c : UInt8) : ofLE (l ++ [c]) = ofLE l + 256 ^ l.length * c.toNat := by
  rw [ofLE_append]; simp [ofLE]

theorem bytes_length (r : Rd) (n : Nat) : (r.bytes n).1.length ≤ n := by
  simp only [Rd.bytes]
  repeat' split
  all_goals simp
  all_goals omega

theorem or_byte (A c k : Nat) (hA : A < 256 ^ k) (hc : c < 256) (hk : k < 8) : bits .or .u64 (A : Int) (IntKind.u64.wrap ((c : Int) * 2 ^ (8 * k))) = ((A + 256 ^ k * c : Nat) : Int) := by
  have e : (256 : Nat) ^ k = 2 ^ (8 * k) := by rw [show (256 : Nat) = 2 ^ 8 from rfl, ← Nat.pow_mul]
  rw [e] at hA ⊢
  have h1 : 2 ^ (8 * k) * c < 18446744073709551616 := by
    have h2 : 2 ^ (8 * k) * c ≤ 2 ^ (8 * k) * 255 := Nat.mul_le_mul_left _ (by omega)
    have h3 : 2 ^ (8 * k) ≤ 2 ^ 56 := Nat.pow_le_pow_right (by omega) (by omega)
    omega
  have h2 : ((c : Int) * 2 ^ (8 * k)) = ((2 ^ (8 * k) * c : Nat) : Int) := by
    push_cast; exact Int.mul_comm _ _
  have h3 : A < 18446744073709551616 := by
    have h3 : 2 ^ (8 * k) ≤ 2 ^ 56 := Nat.pow_le_pow_right (by omega) (by omega)
    omega
  rw [h2, IntKind.wrap_u64, show ((2 ^ (8 * k) * c : Nat) : Int) % 18446744073709551616 = ((2 ^ (8 * k) * c : Nat) : Int) by omega, u64_or_nat _ _ h3 h1, Nat.or_comm, ← Nat.two_pow_add_eq_or_of_lt hA c, Nat.add_comm]

set_option maxHeartbeats 400000 in
theorem RNumber_calls (b : Nat) (r : Rd) (B : Nat) (hB : B ≤ 8) (w : World) (h : RdAt w b r) (h1 : r.took + r.rest.length ≤ 281474976702464) :
    Calls Tryz.prog 120 #[.pointer (some ⟨b, 0, none⟩), .int .i64 B] w fun e' w' => e' = .returned (.int .u64 ((r.number B).1 : Nat)) ∧ Mod (fun k => k = b) w w' ∧ RdAt w' b (r.number B).2 := by
  have hl := bytes_length r B
  unfold Rd.number
  have HW := Lib.hid h; clear h
  have hc := fun w => Lib.run_convert_string_bytes (P := Tryz.prog) w 9 166 5 ⟨(r.bytes B).1.toArray⟩ Tryz.underlying9 Tryz.underlying166 Tryz.underlying5
  go_enter Tryz.func120, Tryz.ntmps120
  go_wp2_with fail
  refine (Bytes_calls b r B _ HW.out (by omega) h1).mono ?_
  rintro e w' ⟨rfl, hm, hr⟩
  generalize ht : (r.bytes B).1 = t at *
  generalize hq : (r.bytes B).2 = q at *
  have HT := Lib.hid ht; clear ht
  have HQ := Lib.hid hq; clear hq
  have hc' := hc w'
  have hm2 := mod_bytesWorld NoB w' 5 ⟨t.toArray⟩
  have hcell : ∀ j, j < t.length → (Lib.bytesWorld w' 5 ⟨t.toArray⟩).cell? ⟨w'.heap.size, j, none⟩ = some (.int .u8 ((t[j]?.getD 0).toNat : Int)) := fun j hj => by
    rw [Lib.bytesWorld_cell w' 5 ⟨t.toArray⟩ j (by simpa [ByteArray.size] using hj)]
    simp [List.getD]
  generalize Lib.bytesWorld w' 5 ⟨t.toArray⟩ = W at *
  have HM := Lib.hid (hm.trans hm2 (fun _ _ h => h.elim))
  have HR : Hid (RdAt W b q) := by
    unfold RdAt at hr ⊢
    rw [hm2.block b (lt_heap hr) id]
    exact hr
  have HC := Lib.hid hcell; clear hcell hm hm2 hc hr HW
  go_wp2_with fail
  go_loop [5, 6, 18] (fun x y i => ∃ (k : Nat), k ≤ t.length ∧ i = .int .i64 k ∧ y = .int .i64 ((8 * k : Nat) : Int) ∧ x = .int .u64 ((ofLE (t.take k) : Nat) : Int)) (fun _ _ i => t.length - (intOf i).toNat)
  case atStart => exact ⟨0, by omega, rfl, rfl, rfl⟩
  case round =>
    obtain ⟨k, hk, rfl, rfl, rfl⟩ := hrel
    by_cases hlt : k < t.length
    · have hcell := HC.out k hlt
      have hsn := take_snoc' t k hlt
      have hof := ofLE_snoc (t.take k) (t[k]?.getD 0)
      rw [← hsn, List.length_take, Nat.min_eq_left (by omega)] at hof
      have hlo := ofLE_lt (t.take k)
      rw [List.length_take, Nat.min_eq_left (by omega)] at hlo
      have hp : 256 ^ k ≤ 256 ^ 7 := Nat.pow_le_pow_right (by omega) (by omega)
      have hcl := (t[k]?.getD 0).toNat_lt
      generalize t[k]?.getD 0 = c at *
      have HO := Lib.hid hof; clear hof hsn
      generalize ofLE (t.take k) = A at *
      have hor := or_byte A c.toNat k hlo hcl (by omega)
      have HB := Lib.hid hor; clear hor
      go_wp2
      go_round
      case rel => exact ⟨k + 1, by omega, by go_num, by go_num, by rw [HB.out, HO.out]⟩
      case measure => simp [intOf]; omega
    · obtain rfl : k = t.length := by omega
      rw [List.take_length]
      go_wp2
      go_ret
      rw [HT.out, HQ.out]
      exact ⟨rfl, HM.out, HR.out⟩

/-- What bounds a reader still bounds it behind some bytes. -/
theorem Rd.bytes_bounds (r : Rd) (n : Nat) : (r.bytes n).2.took + (r.bytes n).2.rest.length ≤ r.took + r.rest.length := by
  unfold Rd.bytes
  have h1 := Rd.fail_took r 4
  have h2 := Rd.fail_rest r 4
  repeat' split
  · show (r.fail 4).took + (r.fail 4).rest.length ≤ _
    omega
  · exact Nat.le_refl _
  · simp
    omega
theorem number_lt (r : Rd) (B : Nat) : (r.number B).1 < 256 ^ B :=
  Nat.lt_of_lt_of_le (ofLE_lt _) (Nat.pow_le_pow_right (by omega) (bytes_length r B))
theorem count_lt (r : Rd) (most : Nat) : (r.count most).1 ≤ most := by
  unfold Rd.count
  split
  · exact Nat.zero_le _
  · omega
theorem count_bounds (r : Rd) (most : Nat) : (r.count most).2.took + (r.count most).2.rest.length ≤ r.took + r.rest.length := by
  have h := Rd.bytes_bounds r 4
  have h1 := Rd.fail_took (r.number 4).2 3
  have h2 := Rd.fail_rest (r.number 4).2 3
  unfold Rd.count
  split
  · show ((r.number 4).2.fail 3).took + ((r.number 4).2.fail 3).rest.length ≤ _
    simp only [Rd.number] at h1 h2 ⊢
    omega
  · exact h

set_option maxHeartbeats 400000 in
theorem Count_calls (b : Nat) (r : Rd) (most : Nat) (hm : most < 9223372036854775808) (w : World) (h : RdAt w b r) (h1 : r.took + r.rest.length ≤ 281474976702464) :
    Calls Tryz.prog 112 #[.pointer (some ⟨b, 0, none⟩), .int .i64 most] w fun e' w' => e' = .returned (.int .i64 ((r.count most).1 : Nat)) ∧ Mod (fun k => k = b) w w' ∧ RdAt w' b (r.count most).2 := by
  have hlt := number_lt r 4
  have HW := Lib.hid h; clear h
  unfold Rd.count
  by_cases hc : (r.number 4).1 > most
  · rw [if_pos hc]
    go_enter Tryz.func112, Tryz.ntmps112
    go_wp2_with fail
    refine (RNumber_calls b r 4 (by omega) _ HW.out h1).mono ?_
    rintro e w' ⟨rfl, hm1, hr⟩
    generalize hx : (r.number 4).1 = n at *
    generalize hy : (r.number 4).2 = q at *
    have HX := Lib.hid hx; clear hx
    have HY := Lib.hid hy; clear hy
    have HM := Lib.hid hm1; clear hm1
    have HR := Lib.hid hr; clear hr
    have hn : n < 4294967296 := hlt
    go_wp2_with fail
    refine (Fail_calls b q 3 (by decide) _ HR.out).mono ?_
    rintro e w2 ⟨rfl, hm2, hr2⟩
    have HM2 := Lib.hid (HM.out.trans hm2 (fun _ _ h => h)); clear hm2
    have HR2 := Lib.hid hr2; clear hr2
    go_wp2_with fail
    go_ret
    rw [HY.out]
    exact ⟨rfl, HM2.out, HR2.out⟩
  · rw [if_neg hc]
    go_enter Tryz.func112, Tryz.ntmps112
    go_wp2_with fail
    refine (RNumber_calls b r 4 (by omega) _ HW.out h1).mono ?_
    rintro e w' ⟨rfl, hm1, hr⟩
    generalize hx : (r.number 4).1 = n at *
    generalize hy : (r.number 4).2 = q at *
    have HX := Lib.hid hx; clear hx
    have HY := Lib.hid hy; clear hy
    have HM := Lib.hid hm1; clear hm1
    have HR := Lib.hid hr; clear hr
    have hn : n < 4294967296 := hlt
    have hc' : n ≤ most := by omega
    go_wp2_with fail
    go_ret
    rw [HX.out, HY.out]
    exact ⟨rfl, HM.out, HR.out⟩

set_option maxHeartbeats 400000 in
theorem Err_calls (b : Nat) (r : Rd) (w : World) (h : RdAt w b r) :
    Calls Tryz.prog 121 #[.pointer (some ⟨b, 0, none⟩)] w fun e' w' => e' = .returned (.int .i64 r.e) ∧ w = w' := by
  obtain ⟨hb, c0, c1, c2, hf⟩ := h.facts
  go_enter Tryz.func121, Tryz.ntmps121
  go_wp2
  go_ret
  exact ⟨rfl, rfl⟩
set_option maxHeartbeats 400000 in
theorem At_calls (b : Nat) (r : Rd) (w : World) (h : RdAt w b r) :
    Calls Tryz.prog 151 #[.pointer (some ⟨b, 0, none⟩)] w fun e' w' => e' = .returned (.int .i64 r.took) ∧ w = w' := by
  obtain ⟨hb, c0, c1, c2, hf⟩ := h.facts
  go_enter Tryz.func151, Tryz.ntmps151
  go_wp2
  go_ret
  exact ⟨rfl, rfl⟩
set_option maxHeartbeats 400000 in
theorem NewReader_calls (s : Str) (w : World) :
    Calls Tryz.prog 111 #[.string ⟨s.toArray⟩] w fun e' w' => e' = .returned (.pointer (some ⟨w.heap.size, 0, none⟩)) ∧ Mod NoB w w' ∧ RdAt w' w.heap.size ⟨s, 0, 0⟩ := by
  go_enter Tryz.func111, Tryz.ntmps111
  go_wp2
  go_ret
  refine ⟨rfl, ?_, heap_alloc_new _ _⟩
  (repeat (first | exact Mod.refl _ _ | refine Mod.drew ?_ | refine Mod.drewN _ ?_ | refine Mod.alloc ?_ _ | refine Mod.setCell ?_ _ _ (fun _ => rfl) | refine Mod.over' ?_ _ (fun _ _ h => h) | refine Mod.over' ?_ _ (fun _ _ h => h.elim)))

set_option maxHeartbeats 400000 in
theorem Text_calls (b : Nat) (r : Rd) (most : Nat) (hm : most ≤ 140737488351232) (w : World) (h : RdAt w b r) (h1 : r.took + r.rest.length ≤ 281474976702464) :
    Calls Tryz.prog 122 #[.pointer (some ⟨b, 0, none⟩), .int .i64 most] w fun e' w' => e' = .returned (.string ⟨(r.text most).1.toArray⟩) ∧ Mod (fun k => k = b) w w' ∧ RdAt w' b (r.text most).2 := by
  have hlt := count_lt r most
  have hbd := count_bounds r most
  unfold Rd.text
  go_enter Tryz.func122, Tryz.ntmps122
  go_wp2_with fail
  refine (Count_calls b r most (by omega) _ h h1).mono ?_
  rintro e w' ⟨rfl, hm1, hr⟩
  go_wp2_with fail
  refine (Bytes_calls b (r.count most).2 (r.count most).1 _ hr (by omega) (by omega)).mono ?_
  rintro e w2 ⟨rfl, hm2, hr2⟩
  go_wp2_with fail
  go_ret
  exact ⟨rfl, hm1.trans hm2 (fun _ _ h => h), hr2⟩

end Go.Proofs.YtgofngilfdnakaaGreat
