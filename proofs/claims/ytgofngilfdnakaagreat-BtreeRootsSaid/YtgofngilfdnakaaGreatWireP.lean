/-
  This text is plain mathematics: numbers and frames in bytes, as the Go packages wire and cupelref02 have them; no condition, no Go.
-/
import Init
namespace Go.Proofs.YtgofngilfdnakaaGreat

abbrev Str := List UInt8

/-- A number's lowest k bytes, the lowest first. -/
def numLE : Nat → Nat → Str
  | _, 0 => []
  | n, k + 1 => UInt8.ofNat (n % 256) :: numLE (n / 256) k
/-- The number of bytes, the lowest first. -/
def ofLE : Str → Nat
  | [] => 0
  | b :: r => b.toNat + 256 * ofLE r
theorem numLE_length (n k : Nat) : (numLE n k).length = k := by
  induction k generalizing n with
  | zero => rfl
  | succ k ih => simp [numLE, ih]
theorem ofLE_lt (s : Str) : ofLE s < 256 ^ s.length := by
  induction s with
  | nil => simp [ofLE]
  | cons b r ih =>
    have := b.toNat_lt
    simp only [ofLE, List.length_cons, Nat.pow_succ]
    omega
theorem ofLE_numLE (n k : Nat) : ofLE (numLE n k) = n % 256 ^ k := by
  induction k generalizing n with
  | zero => simp [numLE, ofLE, Nat.mod_one]
  | succ k ih =>
    simp only [numLE, ofLE, ih]
    have h1 : (UInt8.ofNat (n % 256)).toNat = n % 256 := by simp
    rw [h1, Nat.pow_succ, Nat.mul_comm (256 ^ k) 256, Nat.mod_mul]
theorem numLE_ofLE (s : Str) : numLE (ofLE s) s.length = s := by
  induction s with
  | nil => rfl
  | cons b r ih =>
    have := b.toNat_lt
    simp only [ofLE, List.length_cons, numLE]
    have h1 : (b.toNat + 256 * ofLE r) % 256 = b.toNat := by omega
    have h2 : (b.toNat + 256 * ofLE r) / 256 = ofLE r := by omega
    rw [h1, h2, ih]
    simp
theorem ofLE_append (s t : Str) : ofLE (s ++ t) = ofLE s + 256 ^ s.length * ofLE t := by
  induction s with
  | nil => simp [ofLE]
  | cons b r ih =>
    simp only [List.cons_append, ofLE, ih, List.length_cons, Nat.pow_succ, Nat.mul_add]
    rw [Nat.mul_comm (256 ^ r.length) 256, Nat.mul_assoc]
    omega

/-- The two sums of a check. -/
def adl : Nat × Nat → Str → Nat × Nat
  | p, [] => p
  | (a, b), c :: r => adl ((a + c.toNat) % 65521, (b + (a + c.toNat) % 65521) % 65521) r
def adler (s : Str) : Nat := (adl (1, 0) s).2 * 65536 + (adl (1, 0) s).1
theorem adl_snoc (p : Nat × Nat) (s : Str) (c : UInt8) : adl p (s ++ [c]) =
    (((adl p s).1 + c.toNat) % 65521, ((adl p s).2 + ((adl p s).1 + c.toNat) % 65521) % 65521) := by
  induction s generalizing p with
  | nil => simp [adl]
  | cons d r ih => simp [adl, ih]
theorem adl_lt (s : Str) : ∀ p : Nat × Nat, p.1 < 65521 → p.2 < 65521 → (adl p s).1 < 65521 ∧ (adl p s).2 < 65521 := by
  induction s with
  | nil => intro p h1 h2; exact ⟨h1, h2⟩
  | cons d r ih => intro p h1 h2; exact ih _ (Nat.mod_lt _ (by omega)) (Nat.mod_lt _ (by omega))
theorem adler_lt (s : Str) : adler s < 4294967296 := by
  have := adl_lt s (1, 0) (by omega) (by omega)
  unfold adler
  omega

/-- A text with its count ahead. -/
def text (s : Str) : Str := numLE s.length 4 ++ s
/-- .. and its check behind. -/
def frame (s : Str) : Str := text s ++ numLE (adler (text s)) 4
theorem text_length (s : Str) : (text s).length = s.length + 4 := by simp [text, numLE_length]; omega
theorem frame_length (s : Str) : (frame s).length = s.length + 8 := by simp [frame, text_length, numLE_length]

/-- A reader: what is left, how many were taken, the error. -/
structure Rd where
  rest : Str
  took : Nat
  e : Int

def Rd.fail (r : Rd) (e : Int) : Rd := if r.e = 0 ∧ e ≠ 0 then { r with rest := [], e := e } else r
/-- So many bytes (of a reader ahead of them), and the reader behind. -/
def Rd.bytes (r : Rd) (n : Nat) : Str × Rd :=
  if n > r.rest.length then ([], r.fail 4) else
  if r.e ≠ 0 then ([], r) else (r.rest.take n, { rest := r.rest.drop n, took := r.took + n, e := 0 })
def Rd.number (r : Rd) (n : Nat) : Nat × Rd := (ofLE (r.bytes n).1, (r.bytes n).2)
def Rd.count (r : Rd) (most : Nat) : Nat × Rd :=
  if (r.number 4).1 > most then (0, (r.number 4).2.fail 3) else r.number 4
def Rd.text (r : Rd) (most : Nat) : Str × Rd := (r.count most).2.bytes (r.count most).1

theorem Rd.fail_took (r : Rd) (e : Int) : (r.fail e).took = r.took := by unfold Rd.fail; split <;> rfl
theorem Rd.fail_rest (r : Rd) (e : Int) : (r.fail e).rest.length ≤ r.rest.length := by unfold Rd.fail; split <;> simp
theorem Rd.fail_e (r : Rd) (e : Int) (he : e ≠ 0) : (r.fail e).e ≠ 0 := by
  unfold Rd.fail
  split
  · exact he
  · rename_i h
    intro h'
    exact h ⟨h', he⟩
theorem Rd.bytes_ok {r : Rd} {n : Nat} (h : (r.bytes n).2.e = 0) : r.e = 0 ∧ n ≤ r.rest.length ∧ r.bytes n = (r.rest.take n, { rest := r.rest.drop n, took := r.took + n, e := 0 }) := by
  unfold Rd.bytes at h ⊢
  by_cases h1 : n > r.rest.length
  · rw [if_pos h1] at h
    exact absurd h (Rd.fail_e r 4 (by decide))
  · rw [if_neg h1] at h ⊢
    by_cases h2 : r.e ≠ 0
    · rw [if_pos h2] at h
      exact absurd h h2
    · rw [if_neg h2]
      exact ⟨by simpa using h2, by omega, rfl⟩
theorem Rd.bytes_none {r : Rd} {n : Nat} (h : (r.bytes n).2.e ≠ 0) : (r.bytes n).1 = [] := by
  unfold Rd.bytes at h ⊢
  split
  · rfl
  · rename_i h1
    rw [if_neg h1] at h
    split
    · rfl
    · rename_i h2
      rw [if_neg h2] at h
      exact absurd rfl h
theorem Rd.count_ok {r : Rd} {m : Nat} (h : (r.count m).2.e = 0) : r.e = 0 ∧ 4 ≤ r.rest.length ∧ ofLE (r.rest.take 4) ≤ m ∧ r.count m = (ofLE (r.rest.take 4), { rest := r.rest.drop 4, took := r.took + 4, e := 0 }) := by
  unfold Rd.count at h ⊢
  by_cases h1 : (r.number 4).1 > m
  · rw [if_pos h1] at h
    exact absurd h (Rd.fail_e _ 3 (by decide))
  · rw [if_neg h1] at h ⊢
    obtain ⟨h2, h3, h4⟩ := Rd.bytes_ok (r := r) (n := 4) h
    simp only [Rd.number, h4] at h1 ⊢
    exact ⟨h2, h3, by omega, trivial⟩
theorem Rd.text_ok {r : Rd} {m : Nat} (h : (r.text m).2.e = 0) : r.e = 0 ∧ ∃ t rest, r.rest = numLE t.length 4 ++ (t ++ rest) ∧ t.length ≤ m ∧ t.length < 4294967296 ∧ r.text m = (t, { rest := rest, took := r.took + 4 + t.length, e := 0 }) := by
  unfold Rd.text at h ⊢
  obtain ⟨h1, h2, h3⟩ := Rd.bytes_ok h
  obtain ⟨h4, h5, h6, h7⟩ := Rd.count_ok h1
  rw [h3]
  rw [h7] at h2 ⊢
  simp only at h2 ⊢
  have hlen : ((r.rest.drop 4).take (ofLE (r.rest.take 4))).length = ofLE (r.rest.take 4) := by rw [List.length_take]; omega
  have hlt := ofLE_lt (r.rest.take 4)
  rw [List.length_take, Nat.min_eq_left h5] at hlt
  refine ⟨h4, (r.rest.drop 4).take (ofLE (r.rest.take 4)), (r.rest.drop 4).drop (ofLE (r.rest.take 4)), ?_, by rw [hlen]; exact h6, by rw [hlen]; exact hlt, by rw [hlen]⟩
  rw [hlen, List.take_append_drop]
  have := numLE_ofLE (r.rest.take 4)
  rw [List.length_take, Nat.min_eq_left h5] at this
  rw [this, List.take_append_drop]

/-- The text of the frame at a place, the place behind it, the error. -/
def unframe (s : Str) (k : Nat) : Str × Nat × Int :=
  let t := (⟨s.drop k, 0, 0⟩ : Rd).text 2147483647
  let c := t.2.number 4
  if c.2.e ≠ 0 then ([], 0, c.2.e) else
  if c.1 ≠ adler ((s.drop k).take (k + c.2.took - 4 - k)) then ([], 0, 6) else (t.1, k + c.2.took, 0)

/-- What was read when nothing failed. -/
theorem unframe_read {s : Str} {k : Nat} (h : (((⟨s.drop k, 0, 0⟩ : Rd).text 2147483647).2.number 4).2.e = 0) :
    ∃ t rest, s.drop k = text t ++ rest ∧ 4 ≤ rest.length ∧ t.length ≤ 2147483647 ∧ ((⟨s.drop k, 0, 0⟩ : Rd).text 2147483647).1 = t ∧
      (((⟨s.drop k, 0, 0⟩ : Rd).text 2147483647).2.number 4).1 = ofLE (rest.take 4) ∧ (((⟨s.drop k, 0, 0⟩ : Rd).text 2147483647).2.number 4).2.took = t.length + 8 := by
  obtain ⟨h1, h2, h3⟩ := Rd.bytes_ok (n := 4) h
  obtain ⟨_, t, rest, h4, h5, _, h6⟩ := Rd.text_ok h1
  simp only at h4
  rw [h6] at h2 h3
  simp only [Rd.number, h6, h3]
  exact ⟨t, rest, by rw [h4, text, List.append_assoc], h2, h5, rfl, rfl, by omega⟩

/-- **A frame is taken just where one stands.** -/
theorem unframe_iff (s : Str) (k : Nat) (t : Str) (n : Nat) : unframe s k = (t, n, 0) ↔ (∃ rest, s.drop k = frame t ++ rest) ∧ t.length ≤ 2147483647 ∧ n = k + t.length + 8 := by
  constructor
  · intro h
    simp only [unframe] at h
    by_cases h1 : (((⟨s.drop k, 0, 0⟩ : Rd).text 2147483647).2.number 4).2.e ≠ 0
    · rw [if_pos h1] at h
      exact absurd (congrArg (fun x => x.2.2) h) h1
    · rw [if_neg h1] at h
      have h1' : (((⟨s.drop k, 0, 0⟩ : Rd).text 2147483647).2.number 4).2.e = 0 := by simpa using h1
      obtain ⟨t', rest, h2, h3, h4, h5, h6, h7⟩ := unframe_read h1'
      rw [h5, h6, h7, h2] at h
      have h8 : (text t' ++ rest).take (k + (t'.length + 8) - 4 - k) = text t' := by
        rw [show k + (t'.length + 8) - 4 - k = (text t').length by rw [text_length]; omega, List.take_left]
      rw [h8] at h
      by_cases h9 : ofLE (rest.take 4) ≠ adler (text t')
      · rw [if_pos h9] at h
        simp at h
      · rw [if_neg h9] at h
        simp only [Prod.mk.injEq, and_true] at h
        obtain ⟨rfl, rfl⟩ := h
        refine ⟨⟨rest.drop 4, ?_⟩, h4, by omega⟩
        have h10 : ofLE (rest.take 4) = adler (text t') := by simpa using h9
        have h11 := numLE_ofLE (rest.take 4)
        rw [List.length_take, Nat.min_eq_left h3, h10] at h11
        rw [h2, frame, h11, List.append_assoc, List.take_append_drop]
  · rintro ⟨⟨rest, h⟩, h1, rfl⟩
    have hlt : t.length < 4294967296 := by omega
    have e1 : (⟨s.drop k, 0, 0⟩ : Rd).text 2147483647 = (t, ⟨numLE (adler (text t)) 4 ++ rest, 4 + t.length, 0⟩) := by
      have hd : s.drop k = numLE t.length 4 ++ (t ++ (numLE (adler (text t)) 4 ++ rest)) := by rw [h, frame, text]; simp [List.append_assoc]
      have hn : ofLE (numLE t.length 4) = t.length := by rw [ofLE_numLE]; exact Nat.mod_eq_of_lt hlt
      have ht4 : (s.drop k).take 4 = numLE t.length 4 := by rw [hd, List.take_left' (numLE_length _ _)]
      have hd4 : (s.drop k).drop 4 = t ++ (numLE (adler (text t)) 4 ++ rest) := by rw [hd, List.drop_left' (numLE_length _ _)]
      have hl4 : 4 ≤ (s.drop k).length := by rw [hd]; simp [numLE_length]
      have hb : (⟨s.drop k, 0, 0⟩ : Rd).bytes 4 = (numLE t.length 4, ⟨t ++ (numLE (adler (text t)) 4 ++ rest), 4, 0⟩) := by
        unfold Rd.bytes
        rw [if_neg (by simp only; omega)]
        simp only [ne_eq, not_true_eq_false, if_false]
        rw [ht4, hd4]
      have hc : (⟨s.drop k, 0, 0⟩ : Rd).count 2147483647 = (t.length, ⟨t ++ (numLE (adler (text t)) 4 ++ rest), 4, 0⟩) := by
        unfold Rd.count Rd.number
        rw [hb, hn, if_neg (by simp only; omega)]
      unfold Rd.text
      rw [hc]
      unfold Rd.bytes
      rw [if_neg (by simp)]
      simp
    have e2 : (⟨numLE (adler (text t)) 4 ++ rest, 4 + t.length, 0⟩ : Rd).number 4 = (adler (text t), ⟨rest, 4 + t.length + 4, 0⟩) := by
      have hn : ofLE (numLE (adler (text t)) 4) = adler (text t) := by rw [ofLE_numLE]; exact Nat.mod_eq_of_lt (adler_lt _)
      unfold Rd.number Rd.bytes
      rw [if_neg (by simp [numLE_length])]
      simp only [ne_eq, not_true_eq_false, if_false]
      rw [List.take_left' (numLE_length _ _), List.drop_left' (numLE_length _ _), hn]
    simp only [unframe]
    rw [e1]
    simp only
    rw [e2]
    simp only [ne_eq, not_true_eq_false, if_false]
    have e3 : (s.drop k).take (k + (4 + t.length + 4) - 4 - k) = text t := by
      rw [h, frame, List.append_assoc, show k + (4 + t.length + 4) - 4 - k = (text t).length by rw [text_length]; omega, List.take_left]
    rw [e3]
    simp
    omega
/-- Where no frame is taken the text is empty, and the place is 0. -/
theorem unframe_none {s : Str} {k : Nat} (h : (unframe s k).2.2 ≠ 0) : (unframe s k).1 = [] ∧ (unframe s k).2.1 = 0 := by
  simp only [unframe] at h ⊢
  split
  · exact ⟨rfl, rfl⟩
  · rename_i h1
    rw [if_neg h1] at h
    split
    · exact ⟨rfl, rfl⟩
    · rename_i h2
      rw [if_neg h2] at h
      exact absurd rfl h

end Go.Proofs.YtgofngilfdnakaaGreat
