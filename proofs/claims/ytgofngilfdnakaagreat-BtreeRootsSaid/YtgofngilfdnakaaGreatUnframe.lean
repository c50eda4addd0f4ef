/-
  This text proves what wire.Unframe computes: the text of the frame at a place within a string of at most 2^47 - 4096 bytes.
-/
import Derived.Test.YtgofngilfdnakaaGreatWire
namespace Go.Proofs.YtgofngilfdnakaaGreat
open Go Go.RowKit
attribute [local go_sem] over_cell over_frozen lt_over le_over noB loudUpon ByteArray.mk_append_mk ByteArray.extract_mk drop_full

theorem text_bounds (r : Rd) (most : Nat) : (r.text most).2.took + (r.text most).2.rest.length ≤ r.took + r.rest.length :=
  Nat.le_trans (Rd.bytes_bounds _ _) (count_bounds r most)

set_option maxRecDepth 100000 in
set_option maxHeartbeats 400000 in
theorem Unframe_calls (s : Str) (k : Nat) (hs : s.length ≤ 140737488351232) (hk : k ≤ s.length) (w : World) :
    Calls Tryz.prog 118 #[.string ⟨s.toArray⟩, .int .i64 k] w fun e' w' => e' = .returned (.tuple #[.string ⟨(unframe s k).1.toArray⟩, .int .i64 (unframe s k).2.1, .int .i64 (unframe s k).2.2]) ∧ Mod NoB w w' := by
  have hread := @unframe_read s k
  have hb1 := text_bounds ⟨s.drop k, 0, 0⟩ 2147483647
  have hb2 := Rd.bytes_bounds (Rd.text ⟨s.drop k, 0, 0⟩ 2147483647).2 4
  have hdl : (s.drop k).length = s.length - k := List.length_drop
  simp only [hdl] at hb1
  have hnum : (Rd.text ⟨s.drop k, 0, 0⟩ 2147483647).2.number 4 = (ofLE ((Rd.text ⟨s.drop k, 0, 0⟩ 2147483647).2.bytes 4).1, ((Rd.text ⟨s.drop k, 0, 0⟩ 2147483647).2.bytes 4).2) := rfl
  have hnl := number_lt (Rd.text ⟨s.drop k, 0, 0⟩ 2147483647).2 4
  by_cases he : ((Rd.text ⟨s.drop k, 0, 0⟩ 2147483647).2.number 4).2.e = 0
  · obtain ⟨t, rest, q1, q2, q3, q4, q5, q6⟩ := hread he
    have hlen : t.length + 8 ≤ s.length - k := by rw [← hdl, q1]; simp [text_length]; omega
    have hal : ofLE (rest.take 4) < 4294967296 := by
      have := ofLE_lt (rest.take 4)
      rw [List.length_take, Nat.min_eq_left q2] at this
      exact this
    have hun : unframe s k = if ofLE (rest.take 4) ≠ adler ((s.drop k).take (k + (t.length + 8) - 4 - k)) then ([], 0, 6) else (t, k + (t.length + 8), 0) := by
      simp only [unframe]
      rw [if_neg (by rw [he]; simp), q4, q5, q6]
    rw [hun]
    have had := adler_lt ((s.drop k).take (k + (t.length + 8) - 4 - k))
    have hslice : ((s.drop k).take (k + (t.length + 8) - 4 - k)).length = t.length + 4 := by
      rw [List.length_take, hdl]; omega
    clear hread hnum
    generalize hT : Rd.text ⟨s.drop k, 0, 0⟩ 2147483647 = T at *
    have HT := Lib.hid hT; clear hT
    have HE := Lib.hid he; clear he
    have H4 := Lib.hid q4; clear q4
    have H5 := Lib.hid q5; clear q5
    have H6 := Lib.hid q6; clear q6
    have H1 := Lib.hid q1; clear q1 hun
    have HDL := Lib.hid hdl; clear hdl
    by_cases hck : ofLE (rest.take 4) = adler ((s.drop k).take (k + (t.length + 8) - 4 - k))
    · rw [if_neg (by simpa using hck)]
      have hck1 : (((ofLE (rest.take 4) : Nat) : Int) != ((adler ((s.drop k).take (k + (t.length + 8) - 4 - k)) : Nat) : Int)) = false := by
        rw [bne_eq_false_iff_eq, hck]
      have HCK := Lib.hid hck; clear hck
      go_enter Tryz.func118, Tryz.ntmps118
      go_wp2_with fail
      refine (NewReader_calls _ _).mono ?_
      rintro e w1 ⟨rfl, hm1, hr1⟩
      have HM1 := Lib.hid hm1; clear hm1
      have HR1 := Lib.hid hr1; clear hr1
      go_wp2_with fail
      refine (Text_calls _ _ 2147483647 (by omega) _ HR1.out (by simp only [HDL.out]; omega)).mono ?_
      rintro e w2 ⟨rfl, hm2, hr2⟩
      rw [HT.out] at hr2 ⊢
      have HM2 := Lib.hid ((HM1.out.mono (noB_sub (fun n => n = w.heap.size) _)).trans hm2 (fun _ _ h => h)); clear hm2 HM1
      have HR2 := Lib.hid hr2; clear hr2 HR1
      rw [H4.out]
      go_wp2_with fail
      refine (RNumber_calls _ _ 4 (by omega) _ HR2.out (by omega)).mono ?_
      rintro e w3 ⟨rfl, hm3, hr3⟩
      have HM3 := Lib.hid (HM2.out.trans hm3 (fun _ _ h => h)); clear hm3 HM2
      have HR3 := Lib.hid hr3; clear hr3 HR2
      rw [H5.out]
      go_wp2_with fail
      refine (Err_calls _ _ _ HR3.out).mono ?_
      rintro e w' ⟨rfl, rfl⟩
      rw [HE.out]
      go_wp2_with fail
      refine (At_calls _ _ _ HR3.out).mono ?_
      rintro e w' ⟨rfl, rfl⟩
      rw [H6.out]
      go_wp2_with fail
      refine (Adler_calls _ _ (by rw [hslice]; omega)).mono ?_
      rintro e w4 ⟨rfl, hm4⟩
      have HM4 := Lib.hid (HM3.out.trans hm4 (noB_sub _ _)); clear hm4 HM3
      go_wp2_with fail
      go_ret3
      exact ⟨by first | rfl | (simp; done), HM4.out.mono (fun n hn e => absurd hn (by omega))⟩
    · rw [if_pos (by simpa using hck)]
      have hck1 : (((ofLE (rest.take 4) : Nat) : Int) != ((adler ((s.drop k).take (k + (t.length + 8) - 4 - k)) : Nat) : Int)) = true := by
        rw [bne_iff_ne]
        intro h
        exact hck (by exact_mod_cast h)
      have HCK := Lib.hid hck; clear hck
      go_enter Tryz.func118, Tryz.ntmps118
      go_wp2_with fail
      refine (NewReader_calls _ _).mono ?_
      rintro e w1 ⟨rfl, hm1, hr1⟩
      have HM1 := Lib.hid hm1; clear hm1
      have HR1 := Lib.hid hr1; clear hr1
      go_wp2_with fail
      refine (Text_calls _ _ 2147483647 (by omega) _ HR1.out (by simp only [HDL.out]; omega)).mono ?_
      rintro e w2 ⟨rfl, hm2, hr2⟩
      rw [HT.out] at hr2 ⊢
      have HM2 := Lib.hid ((HM1.out.mono (noB_sub (fun n => n = w.heap.size) _)).trans hm2 (fun _ _ h => h)); clear hm2 HM1
      have HR2 := Lib.hid hr2; clear hr2 HR1
      rw [H4.out]
      go_wp2_with fail
      refine (RNumber_calls _ _ 4 (by omega) _ HR2.out (by omega)).mono ?_
      rintro e w3 ⟨rfl, hm3, hr3⟩
      have HM3 := Lib.hid (HM2.out.trans hm3 (fun _ _ h => h)); clear hm3 HM2
      have HR3 := Lib.hid hr3; clear hr3 HR2
      rw [H5.out]
      go_wp2_with fail
      refine (Err_calls _ _ _ HR3.out).mono ?_
      rintro e w' ⟨rfl, rfl⟩
      rw [HE.out]
      go_wp2_with fail
      refine (At_calls _ _ _ HR3.out).mono ?_
      rintro e w' ⟨rfl, rfl⟩
      rw [H6.out]
      go_wp2_with fail
      refine (Adler_calls _ _ (by rw [hslice]; omega)).mono ?_
      rintro e w4 ⟨rfl, hm4⟩
      have HM4 := Lib.hid (HM3.out.trans hm4 (noB_sub _ _)); clear hm4 HM3
      go_wp2_with fail
      go_ret3
      exact ⟨by first | rfl | (simp; done), HM4.out.mono (fun n hn e => absurd hn (by omega))⟩
  · have hun : unframe s k = ([], 0, ((Rd.text ⟨s.drop k, 0, 0⟩ 2147483647).2.number 4).2.e) := by
      simp only [unframe]
      rw [if_pos he]
    rw [hun]
    clear hread hun
    have he1 : (((Rd.text ⟨s.drop k, 0, 0⟩ 2147483647).2.number 4).2.e != 0) = true := by simpa using he
    generalize hT : Rd.text ⟨s.drop k, 0, 0⟩ 2147483647 = T at *
    have HT := Lib.hid hT; clear hT
    have HE := Lib.hid he; clear he
    have HDL := Lib.hid hdl; clear hdl
    clear hnum
    go_enter Tryz.func118, Tryz.ntmps118
    go_wp2_with fail
    refine (NewReader_calls _ _).mono ?_
    rintro e w1 ⟨rfl, hm1, hr1⟩
    have HM1 := Lib.hid hm1; clear hm1
    have HR1 := Lib.hid hr1; clear hr1
    go_wp2_with fail
    refine (Text_calls _ _ 2147483647 (by omega) _ HR1.out (by simp only [HDL.out]; omega)).mono ?_
    rintro e w2 ⟨rfl, hm2, hr2⟩
    rw [HT.out] at hr2 ⊢
    have HM2 := Lib.hid ((HM1.out.mono (noB_sub (fun n => n = w.heap.size) _)).trans hm2 (fun _ _ h => h)); clear hm2 HM1
    have HR2 := Lib.hid hr2; clear hr2 HR1
    skip
    go_wp2_with fail
    refine (RNumber_calls _ _ 4 (by omega) _ HR2.out (by omega)).mono ?_
    rintro e w3 ⟨rfl, hm3, hr3⟩
    have HM3 := Lib.hid (HM2.out.trans hm3 (fun _ _ h => h)); clear hm3 HM2
    have HR3 := Lib.hid hr3; clear hr3 HR2
    skip
    go_wp2_with fail
    refine (Err_calls _ _ _ HR3.out).mono ?_
    rintro e w' ⟨rfl, rfl⟩
    go_wp2_with fail
    refine (Err_calls _ _ _ HR3.out).mono ?_
    rintro e w' ⟨rfl, rfl⟩
    go_wp2_with fail
    go_ret3
    exact ⟨rfl, HM3.out.mono (fun n hn e => absurd hn (by omega))⟩

end Go.Proofs.YtgofngilfdnakaaGreat
