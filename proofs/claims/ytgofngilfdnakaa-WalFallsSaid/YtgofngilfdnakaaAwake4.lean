/-
  This text proves that cupellaw04.awake answers true, and what cupellaw04.WalNil answers: no condition.
-/
import Derived.Test.YtgofngilfdnakaaWal4
import Derived.Test.YtgofngilfdnakaaWal2
import Derived.Test.YtgofngilfdnakaaWalN
namespace Go.Proofs.Ytgofngilfdnakaa
open Go Go.RowKit
attribute [local go_sem] over_cell over_frozen lt_over le_over noB loudUpon ByteArray.mk_append_mk ByteArray.extract_mk drop_full

def rootName : Str := [114, 111, 111, 116]
/-- The bytes of the one batch that awake commits. -/
def oneBatch : Str := frame [100, 97] ++ frame (109 :: rootName)
def oneDisk : Dk := ⟨[(logName, oneBatch)], [(logName, oneBatch)], [], -1, none, 1, false⟩
def emptyLog : Lg := ⟨[], [], [], 0⟩
theorem aw_open : openW Dk.fresh = (some emptyLog, 0, 0, Dk.fresh) := by kernel_rfl
theorem aw_append : emptyLog.append [97] = (0, 0, ⟨[], frame [100, 97], [], 0⟩) := by kernel_rfl
theorem aw_commit : Lg.commit ⟨[], frame [100, 97], [], 0⟩ Dk.fresh rootName = (0, ⟨oneBatch, [], rootName, 1⟩, oneDisk) := by kernel_rfl
theorem aw_append2 : Lg.append ⟨oneBatch, [], rootName, 1⟩ [98] = (((oneBatch.length : Nat) : Int), 0, (⟨oneBatch, frame [100, 98], rootName, 1⟩ : Lg)) := by kernel_rfl
theorem aw_crash : ({ (oneDisk.crash 0 0) with down := false } : Dk) = oneDisk := by kernel_rfl
theorem aw_open2 : openW oneDisk = (some ⟨oneBatch, [], rootName, 1⟩, 0, 0, oneDisk) := by kernel_rfl
theorem aw_read : Lg.read ⟨oneBatch, [], rootName, 1⟩ 0 = ([97], 0) := by kernel_rfl
theorem aw_read2 : Lg.read ⟨oneBatch, [], rootName, 1⟩ oneBatch.length = ([], 2) := by kernel_rfl
theorem aw_len : oneBatch.length = 23 := by kernel_rfl
theorem fit_fresh : Fit Dk.fresh 0 := ⟨⟨by decide, by decide, by decide, by decide, fun c hc => (by cases hc), by decide⟩, by decide, by decide, by decide⟩
theorem fit_one : Fit oneDisk 100 := ⟨⟨by decide, by decide, by decide, by decide, fun c hc => (by cases hc), by decide⟩, by decide, by decide, by decide⟩

/-- What has come since w, one block aside. -/
def New (w : World) (l : Nat) (k : Nat) : Prop := w.heap.size ≤ k ∧ k ≠ l

set_option maxRecDepth 100000 in
set_option maxHeartbeats 3200000 in
theorem awake_calls (w : World) : Calls Try.prog 22 #[] w fun e w' => e = .returned (.bool true) ∧ Mod NoB w w' := by
  go_enter Try.func22, Try.ntmps22
  go_wp2_with fail
  refine (New_calls w).mono ?_
  rintro e W1 ⟨rfl, hm1, hd1⟩
  generalize hp : w.heap.size + 2 = p at *
  clear hp
  have hop := Open_calls p _ Dk.fresh 0 W1 hd1 fit_fresh (by decide)
  rw [aw_open] at hop
  have HOP := Lib.hid hop
  have HM1 := Lib.hid hm1
  clear hop hm1 hd1
  go_wp2_with fail
  refine HOP.out.mono ?_
  rintro e W2 ⟨l, rfl, hl0, hl2, hm2, hd2⟩
  have HL : Hid (w.heap.size ≤ l) := Nat.le_trans HM1.out.size hl0
  have HM2 : Hid (Mod NoB w W2) := HM1.out.trans hm2 (fun k hk h => by rcases h with h | ⟨h, _⟩; exact h; omega)
  have HD2 : Hid (Disk W2 p (New w l) Dk.fresh) := hd2.mono (fun k _ h => by
    refine ⟨?_, h.2⟩
    rcases h.1 with (h | ⟨h, _⟩) | ⟨h, _⟩
    · exact h.elim
    · exact h
    · exact Nat.le_trans HM1.out.size h)
  have HL2 := Lib.hid hl2
  clear hl0 hl2 hm2 hd2 HOP HM1
  -- a record
  have hap := LAppend_calls l p emptyLog [97] W2 HL2.out (by decide) (by decide) (by decide)
  rw [aw_append] at hap
  have HAP := Lib.hid hap; clear hap
  go_wp2_with fail
  refine HAP.out.mono ?_
  rintro e W3 ⟨rfl, hm3, hl3⟩
  have HM3 : Hid (Mod NoB w W3) := HM2.out.trans hm3 (fun k hk h => by have := HL.out; omega)
  have HD3 : Hid (Disk W3 p (New w l) Dk.fresh) := HD2.out.mod hm3 (fun k h e => h.2 e)
  have HL3 := Lib.hid hl3
  clear hm3 hl3 HAP HM2 HD2 HL2
  -- the batch
  have hcm := LCommit_calls l p (New w l) Dk.fresh ⟨[], frame [100, 97], [], 0⟩ rootName 0 W3 HL3.out HD3.out (fun h => h.2 rfl) fit_fresh (by decide) (by decide) (by decide) (by decide)
  rw [aw_commit] at hcm
  have HCM := Lib.hid hcm; clear hcm
  go_wp2_with fail
  refine HCM.out.mono ?_
  rintro e W4 ⟨rfl, hm4, hl4, hd4⟩
  have HM4 : Hid (Mod NoB w W4) := HM3.out.trans hm4 (fun k hk h => by have := HL.out; rcases h with h | h; exact absurd h.1 (by omega); omega)
  have HD4 : Hid (Disk W4 p (New w l) oneDisk) := hd4.mono (fun k _ h => by
    rcases h with h | ⟨h, _⟩
    · exact h
    · exact ⟨Nat.le_trans HM3.out.size h, by have := lt_heap HL3.out; omega⟩)
  have HL4 := Lib.hid hl4
  clear hm4 hl4 hd4 HCM HM3 HD3 HL3
  have hap := LAppend_calls l p ⟨oneBatch, [], rootName, 1⟩ [98] W4 HL4.out (by decide) (by decide) (by decide)
  rw [aw_append2, aw_len] at hap
  have HAP := Lib.hid hap; clear hap
  go_wp2_with fail
  refine HAP.out.mono ?_
  rintro e W5 ⟨rfl, hm5, hl5⟩
  have HM5 : Hid (Mod NoB w W5) := HM4.out.trans hm5 (fun k hk h => by have := HL.out; omega)
  have HD5 : Hid (Disk W5 p (New w l) oneDisk) := HD4.out.mod hm5 (fun k h e => h.2 e)
  clear hm5 hl5 HAP HM4 HD4 HL4
  -- the power fails
  have HCR := Lib.hid (Crash_calls p (New w l) oneDisk 0 0 100 W5 HD5.out fit_one.le (by decide))
  go_wp2_with fail
  refine HCR.out.mono ?_
  rintro e W6 ⟨rfl, hm6, hd6⟩
  have HM6 : Hid (Mod NoB w W6) := HM5.out.trans hm6 (fun k hk h => absurd h.1 (by omega))
  have hup := Up_calls p _ _ W6 hd6
  rw [aw_crash] at hup
  have HUP := Lib.hid hup
  have HSZ := Lib.hid HM5.out.size
  clear hm6 hd6 hup HCR HM5 HD5
  go_wp2_with fail
  refine HUP.out.mono ?_
  rintro e W7 ⟨rfl, hm7, hd7⟩
  have HM7 : Hid (Mod NoB w W7) := HM6.out.trans hm7 (fun k hk h => by rcases h with h | ⟨h, _⟩; exact absurd h.1 (by omega); have := HSZ.out; omega)
  have hop := Open_calls p _ oneDisk 100 W7 hd7 fit_one (by decide)
  rw [aw_open2] at hop
  have HOP := Lib.hid hop
  clear hop hm7 hd7 HUP HM6
  go_wp2_with fail
  refine HOP.out.mono ?_
  rintro e W8 ⟨l2, rfl, hl0, hl8, hm8, hd8⟩
  have HM8 : Hid (Mod NoB w W8) := HM7.out.trans hm8 (fun k hk h => by rcases h with h | ⟨h, _⟩; exact absurd h.1 (by omega); have := HSZ.out; omega)
  have HL8 := Lib.hid hl8
  clear hm8 hd8 hl0 hl8 HOP HM7
  have hr1 := LRead_calls l2 p ⟨oneBatch, [], rootName, 1⟩ 0 W8 HL8.out (by decide) (by decide) (by decide) (by decide)
  rw [aw_read] at hr1
  have HR1 := Lib.hid hr1; clear hr1
  go_wp2_with fail
  refine HR1.out.mono ?_
  rintro e W9 ⟨rfl, hm9⟩
  have HM9 : Hid (Mod NoB w W9) := HM8.out.trans hm9 (fun _ _ h => h)
  have HL9 := Lib.hid (HL8.out.mod hm9 id)
  clear hm9 HR1 HM8 HL8
  have hr2 := LRead_calls l2 p ⟨oneBatch, [], rootName, 1⟩ oneBatch.length W9 HL9.out (by decide) (by decide) (by decide) (by decide)
  rw [aw_read2, aw_len] at hr2
  have HR2 := Lib.hid hr2; clear hr2
  go_wp2_with fail
  refine HR2.out.mono ?_
  rintro e WA ⟨rfl, hma⟩
  have HMA : Hid (Mod NoB w WA) := HM9.out.trans hma (fun _ _ h => h)
  have HLA := Lib.hid (HL9.out.mod hma id)
  clear hma HR2 HM9 HL9
  have HRT := Lib.hid (Root_calls l2 p ⟨oneBatch, [], rootName, 1⟩ WA HLA.out)
  go_wp2_with fail
  refine HRT.out.mono ?_
  rintro e w' ⟨rfl, rfl⟩
  clear HRT
  go_wp2_with fail
  go_ret
  exact ⟨rfl, HMA.out⟩

theorem nil_open : openW (Dk.fresh.crash 0 0) = (none, 0, 7, Dk.fresh.crash 0 0) := by kernel_rfl

set_option maxRecDepth 100000 in
set_option maxHeartbeats 3200000 in
theorem WalNil_calls (v : Value) (k : Int) (w : World) : Calls Try.prog 7 #[v, .int .i64 k] w fun e w' => e = .returned (.bool true) ∧ Mod NoB w w' := by
  go_enter Try.func7, Try.ntmps7
  go_wp2_with fail
  refine (Open_nil w).mono ?_
  rintro e w' ⟨rfl, rfl⟩
  go_wp2_with fail
  refine (New_calls w).mono ?_
  rintro e W1 ⟨rfl, hm1, hd1⟩
  generalize hp : w.heap.size + 2 = p at *
  clear hp
  have HCR := Lib.hid (Crash_calls p _ Dk.fresh 0 0 0 W1 hd1 fit_fresh.le (by decide))
  have HM1 := Lib.hid hm1
  clear hm1 hd1
  go_wp2_with fail
  refine HCR.out.mono ?_
  rintro e W2 ⟨rfl, hm2, hd2⟩
  have hop := Open_calls p _ (Dk.fresh.crash 0 0) 0 W2 hd2 (fit_fresh.crash 0 0) (by decide)
  rw [nil_open] at hop
  have HOP := Lib.hid hop
  have HM2 : Hid (Mod NoB w W2) := HM1.out.trans hm2 (fun k hk h => by rcases h with h | ⟨h, _⟩; exact h; omega)
  have HSZ := Lib.hid HM1.out.size
  clear hop hm2 hd2 HCR HM1
  go_wp2_with fail
  refine HOP.out.mono ?_
  rintro e W3 ⟨rfl, hm3, _⟩
  have HM3 : Hid (Mod NoB w W3) := HM2.out.trans hm3 (fun k hk h => by rcases h with (h | ⟨h, _⟩) | ⟨h, _⟩; exact h; omega; have := HSZ.out; omega)
  clear hm3 HOP HM2
  go_wp2_with (first
    | (go_at_call 32; refine (LAppend_nil _ _).mono ?_; rintro e w' ⟨rfl, rfl⟩)
    | (go_at_call 43; refine (LRead_nil _ _).mono ?_; rintro e w' ⟨rfl, rfl⟩)
    | (go_at_call 39; refine (Root_nil _).mono ?_; rintro e w' ⟨rfl, rfl⟩)
    | (go_at_call 22; refine (awake_calls _).mono ?_; rintro e W4 ⟨rfl, hm4⟩; have HM4 := Lib.hid (HM3.out.trans hm4 (fun _ _ h => h)); clear hm4 HM3)
    | (go_at_call 41; refine (Drop_nil _).mono ?_; rintro e w' ⟨rfl, rfl⟩)
    | (go_at_call 28; refine (LCommit_nil _ _).mono ?_; rintro e w' ⟨rfl, rfl⟩)
    | (go_at_call 42; refine (Replace_nil _ _ _).mono ?_; rintro e w' ⟨rfl, rfl⟩)
    | (go_at_call 40; refine (Len_nil _).mono ?_; rintro e w' ⟨rfl, rfl⟩)
    | (go_at_call 44; refine (Waits_nil _).mono ?_; rintro e w' ⟨rfl, rfl⟩))
  go_ret
  exact ⟨rfl, HM4.out⟩

end Go.Proofs.Ytgofngilfdnakaa
