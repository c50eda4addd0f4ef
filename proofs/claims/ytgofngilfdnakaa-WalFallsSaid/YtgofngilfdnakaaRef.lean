/-
  This text proves what the package cupelref02's Adler, Number, Text and Frame compute: of texts of at most 2^46 bytes.
-/
import Derived.Test.YtgofngilfdnakaaWire
namespace Go.Proofs.Ytgofngilfdnakaa
open Go Go.RowKit
attribute [local go_sem] over_cell over_frozen lt_over le_over noB loudUpon ByteArray.mk_append_mk ByteArray.extract_mk drop_full

theorem ref_step (R a b m c : Nat) (hm : 0 < m) (h : R % 65521 = (b + m * a) % 65521) :
    ((R + m % 65521 * c) % 65521) % 65521 = ((b + (a + c) % 65521) % 65521 + (m - 1) * ((a + c) % 65521)) % 65521 := by
  obtain ⟨q, rfl⟩ : ∃ q, m = q + 1 := ⟨m - 1, by omega⟩
  have e1 : ((R + (q + 1) % 65521 * c) % 65521) % 65521 = (R + (q + 1) * c) % 65521 := by simp [Nat.add_mod, Nat.mul_mod]
  have e2 : (R + (q + 1) * c) % 65521 = ((b + (q + 1) * a) + (q + 1) * c) % 65521 := by rw [Nat.add_mod, h, ← Nat.add_mod]
  have e3 : ((b + (a + c) % 65521) % 65521 + (q + 1 - 1) * ((a + c) % 65521)) % 65521 = (b + (a + c) + q * (a + c)) % 65521 := by
    rw [Nat.add_sub_cancel]
    simp [Nat.add_mod, Nat.mul_mod]
  have e4 : (b + (q + 1) * a) + (q + 1) * c = b + (a + c) + q * (a + c) := by
    rw [Nat.succ_mul, Nat.succ_mul, Nat.mul_add]; omega
  rw [e1, e2, e3, e4]

set_option maxRecDepth 100000 in
set_option maxHeartbeats 800000 in
theorem RefAdler_calls (s : Str) (w : World) (hs : s.length ≤ 140737488351232) :
    Calls Try.prog 84 #[.string ⟨s.toArray⟩] w fun e w' => e = .returned (.int .u32 (adler s)) ∧ w = w' := by
  go_enter Try.func84, Try.ntmps84
  go_wp2
  go_loop [3, 4, 5] (fun x y i => ∃ (k a b R : Nat), k ≤ s.length ∧ i = .int .i64 k ∧ x = .int .u64 a ∧ y = .int .u64 R ∧ a < 65521 ∧ b < 65521 ∧ R < 65521 ∧ Hid (R % 65521 = (b + (s.length - k) * a) % 65521) ∧ Hid (adl (1, 0) (s.take k) = (a, b))) (fun _ _ i => s.length - (intOf i).toNat)
  case atStart => exact ⟨0, 1, 0, s.length % 65521, by omega, rfl, rfl, by go_num, by omega, by omega, by omega, by simp [Hid], by simp [Hid, adl]⟩
  case round =>
    obtain ⟨k, a, b, R, hk, rfl, rfl, rfl, ha, hb, hR, HR, H⟩ := hrel
    by_cases hlt : k < s.length
    · have hsn := take_snoc' s k hlt
      have hadl := adl_snoc (1, 0) (s.take k) (s[k]?.getD 0)
      rw [← hsn, H.out] at hadl
      have hcl := (s[k]?.getD 0).toNat_lt
      have hst := ref_step R a b (s.length - k) (s[k]?.getD 0).toNat (by omega) HR.out
      have hix : (⟨s.toArray⟩ : ByteArray)[k]'(by simpa [ByteArray.size] using hlt) = s[k]?.getD 0 := by
        rw [List.getElem?_eq_getElem hlt]; rfl
      have hmul : (s.length - k) % 65521 * (s[k]?.getD 0).toNat ≤ 65521 * 256 := Nat.mul_le_mul (by omega) (by omega)
      generalize hcc : s[k]?.getD 0 = c at *
      have HCC := Lib.hid hcc; clear hcc
      have HN := Lib.hid hadl; clear hadl hsn
      have HST := Lib.hid hst; clear hst
      have hmod : (((s.length : Int) - k) % 65521) = (((s.length - k) % 65521 : Nat) : Int) := by omega
      obtain ⟨P, hP⟩ : ∃ P, (s.length - k) % 65521 * c.toNat = P := ⟨_, rfl⟩
      have hp : ((s.length - k : Nat) : Int) % 65521 * (c.toNat : Int) = (P : Int) := by
        rw [← hP, Int.natCast_mul]; rfl
      have hP2 : P ≤ 65521 * 256 := by rw [← hP]; exact hmul
      rw [hP] at HST
      clear hmul hP
      go_wp2
      go_round
      case rel => exact ⟨k + 1, (a + c.toNat) % 65521, (b + (a + c.toNat) % 65521) % 65521, (R + P) % 65521, by omega, by go_num, by go_num, by go_num, by omega, by omega, by omega, by have := HST.out; rwa [Nat.sub_sub] at this, HN⟩
      case measure => simp [intOf]; omega
    · have hkk : k = s.length := by omega
      have h1 := H.out
      rw [hkk, List.take_length] at h1
      have h2 := HR.out
      rw [hkk, Nat.sub_self, Nat.zero_mul, Nat.add_zero, Nat.mod_eq_of_lt hR, Nat.mod_eq_of_lt hb] at h2
      have H1 := Lib.hid h1; clear h1
      subst h2
      go_wp2
      go_ret
      refine ⟨?_, rfl⟩
      rw [adler, H1.out]
      show Ending.returned (Value.int IntKind.u32 ((R : Int) * 65536 + (a : Int))) = Ending.returned (Value.int IntKind.u32 ((R * 65536 + a : Nat) : Int))
      rw [Int.natCast_add, Int.natCast_mul]
      rfl

theorem run_byte_string (w : World) (c : UInt8) : (convert 185 9 (.slice (some ⟨w.heap.size, 0, none⟩) 1 1)).run Try.prog (w.alloc (.cells #[.int .u8 (c.toNat : Int)] 5)) = .ok (.string ⟨#[c]⟩) (w.alloc (.cells #[.int .u8 (c.toNat : Int)] 5)) := by
  have hcv := run_convert_bytes_arg (P := Try.prog) (w := w.alloc (.cells #[.int .u8 (c.toNat : Int)] 5)) 185 5 Try.underlying185 Try.underlying5 w.heap.size 0 1 1 ([c].map fun c => (c.toNat : Int)) (by simp) (fun i hi => by
        rw [Nat.zero_add, World.cell?_alloc_new]
        obtain rfl : i = 0 := by omega
        rfl) 9 Try.underlying9
  rw [strOfNums_bytes] at hcv
  exact hcv

set_option maxRecDepth 100000 in
set_option maxHeartbeats 800000 in
theorem RefNumber_calls (n B : Nat) (w : World) (hn : n < 18446744073709551616) (hB : B ≤ 8) :
    Calls Try.prog 83 #[.int .u64 n, .int .i64 B] w fun e w' => e = .returned (.string ⟨(numLE n B).toArray⟩) ∧ Mod NoB w w' := by
  go_enter Try.func83, Try.ntmps83
  go_wp2
  go_loopw [0, 5, 6] (fun m r i wr => ∃ k q : Nat, k ≤ B ∧ i = .int .i64 k ∧ m = .int .u64 q ∧ r = .string ⟨(numLE n k).toArray⟩ ∧ q < 18446744073709551616 ∧ Hid (q = n / 256 ^ k) ∧ Hid (Mod NoB w wr)) (fun _ _ i _ => B - (intOf i).toNat)
  case atStart => exact ⟨0, n, by omega, rfl, rfl, rfl, hn, by simp [Hid], Mod.refl _ _⟩
  case round =>
    obtain ⟨k, q, hk, rfl, rfl, rfl, hq, H, HM⟩ := hrel
    by_cases hlt : k < B
    · have hnx : q / 256 = n / 256 ^ (k + 1) := by rw [H.out, Nat.div_div_eq_div_mul, Nat.pow_succ]
      have hsn := numLE_snoc n k
      rw [← H.out] at hsn
      have hby : (((UInt8.ofNat (q % 256)).toNat : Nat) : Int) = (q : Int) % 256 := by simp
      have hcv := run_byte_string wr (UInt8.ofNat (q % 256))
      rw [hby] at hcv
      have HB := Lib.hid hby; clear hby
      have HN := Lib.hid hnx; clear hnx
      have HS := Lib.hid hsn; clear hsn
      have hsl := numLE_length n k
      generalize numLE n k = s at *
      go_wp2
      go_roundw
      case rel => exact ⟨k + 1, q / 256, by omega, by go_num, by go_num, by rw [HS.out], by omega, HN, HM.out.alloc _⟩
      case measure => simp [intOf]; omega
    · have hkk : k = B := by omega
      subst hkk
      go_wp2
      go_ret
      exact ⟨rfl, HM.out⟩

set_option maxRecDepth 100000 in
set_option maxHeartbeats 400000 in
theorem RefText_calls (s : Str) (w : World) (hs : s.length ≤ 70368744177664) :
    Calls Try.prog 82 #[.string ⟨s.toArray⟩] w fun e w' => e = .returned (.string ⟨(text s).toArray⟩) ∧ Mod NoB w w' := by
  have hl := numLE_length s.length 4
  go_enter Try.func82, Try.ntmps82
  go_wp2_with (go_at_call 83; refine (RefNumber_calls s.length 4 _ (by omega) (by omega)).mono ?_; rintro e w' ⟨rfl, hm⟩)
  go_ret
  exact ⟨rfl, hm⟩

set_option maxRecDepth 100000 in
set_option maxHeartbeats 400000 in
theorem RefFrame_calls (s : Str) (w : World) (hs : s.length ≤ 70368744177664) :
    Calls Try.prog 20 #[.string ⟨s.toArray⟩] w fun e w' => e = .returned (.string ⟨(frame s).toArray⟩) ∧ Mod NoB w w' := by
  have hl := text_length s
  have ha := adler_lt (text s)
  have hl2 := numLE_length (adler (text s)) 4
  have HT : Hid (∀ X, Calls Try.prog 82 #[.string ⟨s.toArray⟩] X fun e w' => e = .returned (.string ⟨(text s).toArray⟩) ∧ Mod NoB X w') := fun X => RefText_calls s X hs
  have HA : Hid (∀ X, Calls Try.prog 84 #[.string ⟨(text s).toArray⟩] X fun e w' => e = .returned (.int .u32 (adler (text s))) ∧ X = w') := fun X => RefAdler_calls (text s) X (by omega)
  have HNU : Hid (∀ X, Calls Try.prog 83 #[.int .u64 (adler (text s)), .int .i64 4] X fun e w' => e = .returned (.string ⟨(numLE (adler (text s)) 4).toArray⟩) ∧ Mod NoB X w') := fun X => RefNumber_calls (adler (text s)) 4 X (by omega) (by omega)
  have HF : Hid (frame s = text s ++ numLE (adler (text s)) 4) := rfl
  generalize frame s = fr at *
  generalize text s = t at *
  generalize adler t = ad at *
  generalize numLE ad 4 = nu at *
  go_enter Try.func20, Try.ntmps20
  go_wp2_with fail
  refine (HT.out _).mono ?_
  rintro e w1 ⟨rfl, hm1⟩
  have HM1 := Lib.hid hm1; clear hm1
  go_wp2_with fail
  refine (HT.out _).mono ?_
  rintro e w2 ⟨rfl, hm2⟩
  have HM2 := Lib.hid (HM1.out.trans hm2 (fun _ _ h => h)); clear hm2 HM1
  go_wp2_with fail
  refine (HA.out _).mono ?_
  rintro e w' ⟨rfl, rfl⟩
  go_wp2_with fail
  refine (HNU.out _).mono ?_
  rintro e w3 ⟨rfl, hm3⟩
  have HM3 := Lib.hid (HM2.out.trans hm3 (fun _ _ h => h)); clear hm3 HM2
  go_wp2_with fail
  go_ret
  rw [HF.out]
  exact ⟨by simp, HM3.out⟩

end Go.Proofs.Ytgofngilfdnakaa
