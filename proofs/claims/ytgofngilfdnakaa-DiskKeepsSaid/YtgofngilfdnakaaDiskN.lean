/-
  This text proves what the methods of a nil disk answer, what cupellaw03.awake and cupelref03.Name answer: under bounds that every argument keeps.
-/
import Derived.Test.YtgofngilfdnakaaWal4
namespace Go.Proofs.Ytgofngilfdnakaa
open Go Go.RowKit
attribute [local go_sem] over_cell over_frozen lt_over le_over noB loudUpon ByteArray.mk_append_mk ByteArray.extract_mk drop_full

set_option maxRecDepth 100000 in
set_option maxHeartbeats 400000 in
theorem Room_nil3 (n : Int) (w : World) : Calls Try.prog 30 #[.pointer none, .int .i64 n] w fun e w' => e = .returned (.tuple #[]) ∧ w = w' := by
  go_enter Try.func30, Try.ntmps30
  go_wp2
  go_end0
  exact ⟨rfl, rfl⟩
set_option maxRecDepth 100000 in
set_option maxHeartbeats 400000 in
theorem Plan_nil3 (v : Value) (w : World) : Calls Try.prog 36 #[.pointer none, v] w fun e w' => e = .returned (.tuple #[]) ∧ w = w' := by
  go_enter Try.func36, Try.ntmps36
  go_wp2
  go_end0
  exact ⟨rfl, rfl⟩
set_option maxRecDepth 100000 in
set_option maxHeartbeats 400000 in
theorem Crash_nil3 (m n : Int) (w : World) : Calls Try.prog 37 #[.pointer none, .int .i64 m, .int .i64 n] w fun e w' => e = .returned (.tuple #[]) ∧ Mod NoB w w' := by
  go_enter Try.func37, Try.ntmps37
  go_wp2
  refine bodyPost_ret (v := .tuple #[]) (results_none rfl _ _ _) rfl ?_
  exact ⟨rfl, (Mod.refl _ _).alloc _⟩
set_option maxRecDepth 100000 in
set_option maxHeartbeats 400000 in
theorem Dead_nil3 (_ : Unit) (w : World) : Calls Try.prog 45 #[.pointer none] w fun e w' => e = .returned (.bool true) ∧ w = w' := by
  go_enter Try.func45, Try.ntmps45
  go_wp2
  go_ret
  exact ⟨rfl, rfl⟩
set_option maxRecDepth 100000 in
set_option maxHeartbeats 400000 in
theorem Up_nil3 (_ : Unit) (w : World) : Calls Try.prog 38 #[.pointer none] w fun e w' => e = .returned (.bool false) ∧ w = w' := by
  go_enter Try.func38, Try.ntmps38
  go_wp2
  go_ret
  exact ⟨rfl, rfl⟩
set_option maxRecDepth 100000 in
set_option maxHeartbeats 400000 in
theorem Sync_nil3 (_ : Unit) (w : World) : Calls Try.prog 24 #[.pointer none] w fun e w' => e = .returned (.int .i64 7) ∧ w = w' := by
  go_enter Try.func24, Try.ntmps24
  go_wp2
  go_ret
  exact ⟨rfl, rfl⟩
set_option maxRecDepth 100000 in
set_option maxHeartbeats 400000 in
theorem Names_nil3 (_ : Unit) (w : World) : Calls Try.prog 70 #[.pointer none] w fun e w' => e = .returned (.slice none 0 0) ∧ w = w' := by
  go_enter Try.func70, Try.ntmps70
  go_wp2
  go_ret
  exact ⟨rfl, rfl⟩
set_option maxRecDepth 100000 in
set_option maxHeartbeats 400000 in
theorem Used_nil3 (_ : Unit) (w : World) : Calls Try.prog 31 #[.pointer none] w fun e w' => e = .returned (.int .i64 0) ∧ w = w' := by
  go_enter Try.func31, Try.ntmps31
  go_wp2
  go_ret
  exact ⟨rfl, rfl⟩
set_option maxRecDepth 100000 in
set_option maxHeartbeats 400000 in
theorem Changes_nil3 (_ : Unit) (w : World) : Calls Try.prog 35 #[.pointer none] w fun e w' => e = .returned (.int .i64 0) ∧ w = w' := by
  go_enter Try.func35, Try.ntmps35
  go_wp2
  go_ret
  exact ⟨rfl, rfl⟩
set_option maxRecDepth 100000 in
set_option maxHeartbeats 400000 in
theorem Loose_nil3 (_ : Unit) (w : World) : Calls Try.prog 71 #[.pointer none] w fun e w' => e = .returned (.int .i64 0) ∧ w = w' := by
  go_enter Try.func71, Try.ntmps71
  go_wp2
  go_ret
  exact ⟨rfl, rfl⟩
set_option maxRecDepth 100000 in
set_option maxHeartbeats 400000 in
theorem Clone_nil3 (_ : Unit) (w : World) : Calls Try.prog 34 #[.pointer none] w fun e w' => e = .returned (.pointer none) ∧ w = w' := by
  go_enter Try.func34, Try.ntmps34
  go_wp2
  go_ret
  exact ⟨rfl, rfl⟩
set_option maxRecDepth 100000 in
set_option maxHeartbeats 400000 in
theorem Read_nil3 (a : ByteArray) (w : World) : Calls Try.prog 27 #[.pointer none, .string a] w fun e w' => e = .returned (.tuple #[.string ⟨#[]⟩, .int .i64 7]) ∧ Mod NoB w w' := by
  go_enter Try.func27, Try.ntmps27
  go_wp2
  go_ret2
  exact ⟨rfl, (Mod.refl _ _).alloc _⟩
set_option maxRecDepth 100000 in
set_option maxHeartbeats 400000 in
theorem Append_nil3 (a b : ByteArray) (w : World) : Calls Try.prog 95 #[.pointer none, .string a, .string b] w fun e w' => e = .returned (.int .i64 7) ∧ Mod NoB w w' := by
  go_enter Try.func95, Try.ntmps95
  go_wp2
  go_ret
  exact ⟨rfl, (Mod.refl _ _).alloc _⟩
set_option maxRecDepth 100000 in
set_option maxHeartbeats 400000 in
theorem Write_nil3 (a b : ByteArray) (w : World) : Calls Try.prog 23 #[.pointer none, .string a, .string b] w fun e w' => e = .returned (.int .i64 7) ∧ Mod NoB w w' := by
  go_enter Try.func23, Try.ntmps23
  go_wp2
  go_ret
  exact ⟨rfl, (Mod.refl _ _).alloc _⟩
set_option maxRecDepth 100000 in
set_option maxHeartbeats 400000 in
theorem Move_nil3 (a b : ByteArray) (w : World) : Calls Try.prog 101 #[.pointer none, .string a, .string b] w fun e w' => e = .returned (.int .i64 7) ∧ Mod NoB w w' := by
  go_enter Try.func101, Try.ntmps101
  go_wp2
  go_ret
  exact ⟨rfl, (Mod.refl _ _).alloc _⟩
set_option maxRecDepth 100000 in
set_option maxHeartbeats 400000 in
theorem Remove_nil3 (a : ByteArray) (w : World) : Calls Try.prog 91 #[.pointer none, .string a] w fun e w' => e = .returned (.int .i64 7) ∧ Mod NoB w w' := by
  go_enter Try.func91, Try.ntmps91
  go_wp2
  go_ret
  exact ⟨rfl, (Mod.refl _ _).alloc _⟩
set_option maxRecDepth 100000 in
set_option maxHeartbeats 400000 in
theorem Truncate_nil3 (a : ByteArray) (n : Int) (w : World) : Calls Try.prog 93 #[.pointer none, .string a, .int .i64 n] w fun e w' => e = .returned (.int .i64 7) ∧ Mod NoB w w' := by
  go_enter Try.func93, Try.ntmps93
  go_wp2
  go_ret
  exact ⟨rfl, (Mod.refl _ _).alloc _⟩

set_option maxRecDepth 100000 in
set_option maxHeartbeats 800000 in
theorem RefName_calls (s : Str) (w : World) (hs : s.length ≤ 9223372036854775807) :
    Calls Try.prog 68 #[.string ⟨s.toArray⟩] w fun e w' => e = .returned (.bool (nameOk s)) ∧ w = w' := by
  rw [nameOk_eq]
  go_enter Try.func68, Try.ntmps68
  go_wp2
  go_loop [3] (fun i => ∃ (k : Nat), k ≤ s.length ∧ i = .int .i64 k ∧ Hid ((s.take k).all okByte = true)) (fun i => s.length - (intOf i).toNat)
  case atStart => exact ⟨0, by omega, rfl, by simp [Hid]⟩
  case round =>
    obtain ⟨k, hk, rfl, H⟩ := hrel
    by_cases hlt : k < s.length
    · have hsn := take_snoc' s k hlt
      have hcl := (s[k]?.getD 0).toNat_lt
      have hok := okByte_iff (s[k]?.getD 0)
      have hnot : okByte (s[k]?.getD 0) = false → s.all okByte = false := fun h => by
        rw [← Bool.not_eq_true, List.all_eq_true]
        intro hall
        have := hall (s[k]?.getD 0) (by rw [List.getElem?_eq_getElem hlt]; exact List.getElem_mem hlt)
        rw [h] at this
        cases this
      have HS := Lib.hid hsn; clear hsn
      have HNOT := Lib.hid hnot; clear hnot
      have hgd : ∀ h, (({ data := s.toArray } : ByteArray)[k]'h) = s[k]?.getD 0 := fun h => by
        rw [List.getElem?_eq_getElem hlt]
        rfl
      generalize s[k]?.getD 0 = c at *
      have HOK := Lib.hid hok; clear hok
      go_wp2
      all_goals simp only [hgd, bne_iff_ne, ne_eq, bne_eq_false_iff_eq] at *
      all_goals first
        | (have hy : okByte c = true := by rw [HOK.out]; omega
           refine ⟨⟨k + 1, by omega, by go_num, ?_⟩, by simp [intOf]; omega⟩
           show (s.take (k + 1)).all okByte = true
           rw [HS.out, List.all_append, H.out]
           simp [hy])
        | (have hy : okByte c = false := by rw [← Bool.not_eq_true, HOK.out]; omega
           go_ret
           rw [HNOT.out hy]
           refine ⟨?_, rfl⟩
           simp)
    · have hk' : k = s.length := by omega
      have h1 := H.out
      rw [hk', List.take_length] at h1
      have HH := Lib.hid h1; clear h1
      by_cases h0 : s = []
      · subst h0
        go_wp2
        go_ret
        exact ⟨rfl, rfl⟩
      · have h0' : s.isEmpty = false := by simpa using h0
        have hne : (({ data := s.toArray } : ByteArray) != { data := #[] }) = true := by
          cases s with
          | nil => exact absurd rfl h0
          | cons c t => rfl
        by_cases h17 : s.length < 17
        · go_wp2
          go_ret
          refine ⟨?_, rfl⟩
          rw [HH.out, decide_eq_true (by omega : s.length ≤ 16)]
          show Ending.returned (Value.bool (decide ((s.length : Int) < 17))) = _
          rw [decide_eq_true (by omega)]
          rfl
        · go_wp2
          go_ret
          refine ⟨?_, rfl⟩
          rw [decide_eq_false (by omega : ¬ s.length ≤ 16)]
          show Ending.returned (Value.bool (decide ((s.length : Int) < 17))) = _
          rw [decide_eq_false (by omega)]
          simp

/-- The walk of the law's first lines, as a disk has it. -/
def dk3a : Dk := (Dk.fresh.append [97] [120]).2
def dk3b : Dk := (dk3a.write [98] [121]).2
def dk3c : Dk := { (dk3b.crash 2 0) with down := false }
theorem dk3_append : (Dk.fresh.append [97] [120]).1 = 0 := by kernel_rfl
theorem dk3_write : (dk3a.write [98] [121]).1 = 0 := by kernel_rfl
theorem dk3_read1 : dk3c.read [97] = ([], 2) := by kernel_rfl
theorem dk3_read2 : dk3c.read [98] = ([121], 0) := by kernel_rfl
theorem fit_fresh3 : Fit Dk.fresh 0 := ⟨⟨by decide, by decide, by decide, by decide, fun c hc => (by cases hc), by decide⟩, by decide, by decide, by decide⟩
theorem fit3a : Fit dk3a 2 := fit_fresh3.append [97] [120] (by decide)
theorem fit3b : Fit dk3b 4 := fit3a.write [98] [121] (by decide)

set_option maxRecDepth 100000 in
set_option maxHeartbeats 1600000 in
theorem awake3_calls (w : World) : Calls Try.prog 65 #[] w fun e w' => e = .returned (.bool true) ∧ Mod NoB w w' := by
  have hst : ∀ (S : Nat → Prop) (a b : World), (∀ k, S k → w.heap.size ≤ k) → w.heap.size ≤ a.heap.size → ∀ k, Since S a b k → w.heap.size ≤ k := fun S a b h1 h2 k hk => by
    rcases hk with hk | ⟨hk, _⟩
    · exact h1 k hk
    · omega
  have HST := Lib.hid hst
  clear hst
  go_enter Try.func65, Try.ntmps65
  go_wp2_with fail
  refine (New_calls w).mono ?_
  rintro e W1 ⟨rfl, hm1, hd1⟩
  generalize hp : w.heap.size + 2 = p at *
  clear hp
  have hs1 : ∀ k, Since NoB w W1 k → w.heap.size ≤ k := fun k hk => HST.out NoB w W1 (fun _ h => h.elim) (Nat.le_refl _) k hk
  generalize Since NoB w W1 = S1 at *
  have hap := Append_calls p S1 Dk.fresh [97] [120] 0 W1 hd1 fit_fresh3 (by decide) (by decide)
  rw [dk3_append] at hap
  have HAP := Lib.hid hap
  have HM1 := Lib.hid hm1
  have HS1 := Lib.hid hs1
  clear hap hm1 hd1 hs1
  go_wp2_with fail
  refine HAP.out.mono ?_
  rintro e W2 ⟨rfl, hm2, hd2⟩
  have HM2 : Hid (Mod NoB w W2) := HM1.out.trans hm2 (fun k hk h => absurd (HS1.out k h) (by omega))
  have hs2 := HST.out S1 W1 W2 HS1.out HM1.out.size
  generalize Since S1 W1 W2 = S2 at *
  have hwr := Write_calls p S2 dk3a [98] [121] 2 W2 hd2 fit3a (by decide) (by decide)
  rw [dk3_write] at hwr
  have HWR := Lib.hid hwr
  have HS2 := Lib.hid hs2
  clear hwr hm2 hd2 hs2 HAP HM1 HS1
  go_wp2_with fail
  refine HWR.out.mono ?_
  rintro e W3 ⟨rfl, hm3, hd3⟩
  have HM3 : Hid (Mod NoB w W3) := HM2.out.trans hm3 (fun k hk h => absurd (HS2.out k h) (by omega))
  have hs3 := HST.out S2 W2 W3 HS2.out HM2.out.size
  generalize Since S2 W2 W3 = S3 at *
  have hcr := Crash_calls p S3 dk3b 2 0 4 W3 hd3 fit3b.le (by decide)
  have HCR := Lib.hid hcr
  have HS3 := Lib.hid hs3
  clear hcr hm3 hd3 hs3 HWR HM2 HS2
  go_wp2_with fail
  refine HCR.out.mono ?_
  rintro e W4 ⟨rfl, hm4, hd4⟩
  have HM4 : Hid (Mod NoB w W4) := HM3.out.trans hm4 (fun k hk h => absurd (HS3.out k h) (by omega))
  have hs4 := HST.out S3 W3 W4 HS3.out HM3.out.size
  generalize Since S3 W3 W4 = S4 at *
  have hup := Up_calls p S4 _ W4 hd4
  have HUP := Lib.hid hup
  have HS4 := Lib.hid hs4
  clear hup hm4 hd4 hs4 HCR HM3 HS3
  go_wp2_with fail
  refine HUP.out.mono ?_
  rintro e W5 ⟨rfl, hm5, hd5⟩
  have HM5 : Hid (Mod NoB w W5) := HM4.out.trans hm5 (fun k hk h => absurd (HS4.out k h) (by omega))
  have hr1 := fun X (hm : Mod NoB W5 X) => Read_calls p S4 dk3c [97] X (Disk.mod hd5 hm (fun _ _ => id)) (by decide)
  have hr2 := fun X (hm : Mod NoB W5 X) => Read_calls p S4 dk3c [98] X (Disk.mod hd5 hm (fun _ _ => id)) (by decide)
  rw [dk3_read1] at hr1
  rw [dk3_read2] at hr2
  have HR1 := Lib.hid hr1
  have HR2 := Lib.hid hr2
  clear hr1 hr2 hm5 hd5 HUP HM4 HS4
  go_wp2_with fail
  refine (HR1.out W5 (Mod.refl _ _)).mono ?_
  rintro e W6 ⟨rfl, hm6⟩
  have HM6 := Lib.hid hm6
  clear hm6
  go_wp2_with fail
  refine (HR2.out W6 HM6.out).mono ?_
  rintro e W7 ⟨rfl, hm7⟩
  have HM7 : Hid (Mod NoB w W7) := (HM5.out.trans HM6.out (fun _ _ h => h)).trans hm7 (fun _ _ h => h)
  clear hm7 HM6 HM5 HR1 HR2
  go_wp2_with fail
  go_ret
  exact ⟨rfl, HM7.out⟩

def few3 (s : Str) : Str := s.take 60
set_option maxRecDepth 100000 in
set_option maxHeartbeats 400000 in
theorem few3_calls (s : Str) (w : World) (hs : s.length ≤ 9223372036854775807) : Calls Try.prog 110 #[.string ⟨s.toArray⟩] w fun e w' => e = .returned (.string ⟨(few3 s).toArray⟩) ∧ w = w' := by
  unfold few3
  by_cases h : s.length > 60
  · go_enter Try.func110, Try.ntmps110
    go_wp2
    go_ret
    exact ⟨rfl, rfl⟩
  · rw [List.take_of_length_le (by omega)]
    go_enter Try.func110, Try.ntmps110
    go_wp2
    go_ret
    exact ⟨rfl, rfl⟩

end Go.Proofs.Ytgofngilfdnakaa
