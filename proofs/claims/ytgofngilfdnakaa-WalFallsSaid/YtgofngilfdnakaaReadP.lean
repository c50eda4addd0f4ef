/-
  This text is plain mathematics: what the law WalReads goes through, byte by byte of what lies behind the last marker; no condition, no Go.
-/
import Derived.Test.YtgofngilfdnakaaLaw4d
namespace Go.Proofs.Ytgofngilfdnakaa
open Go

theorem placed_rec : ∀ (l : List Str) (a z : Str), (∀ x ∈ l, x.length ≤ 2147483646) → ∀ r ∈ placed a.length l, ∃ j : Nat, r.1 = j ∧ Rec (a ++ (datas l ++ z)) j r.2
  | [], _, _, _, r, h => by cases h
  | x :: l, a, z, hx, r, h => by
    rcases List.mem_cons.1 h with rfl | h
    · exact ⟨a.length, rfl, a, datas l ++ z, by rw [datas_cons, List.append_assoc], rfl, hx x List.mem_cons_self⟩
    · have h2 := placed_rec l (a ++ frame (100 :: x)) z (fun y hy => hx y (List.mem_cons_of_mem _ hy)) r (by
        rw [List.length_append, frame_length, List.length_cons]
        rw [show a.length + (x.length + 1 + 8) = a.length + (x.length + 9) by omega]
        exact h)
      obtain ⟨j, h3, h4⟩ := h2
      refine ⟨j, h3, ?_⟩
      rw [datas_cons, List.append_assoc]
      rwa [List.append_assoc] at h4
theorem datas_count : ∀ l : List Str, l.length * 9 ≤ (datas l).length
  | [] => by simp [datas]
  | x :: l => by
    have := datas_count l
    rw [datas_length_cons, List.length_cons]
    omega

/-- The law's state at a place. -/
structure RP (all : Str) (k fin : Nat) (m : Md) : Prop where
  le : fin ≤ k
  lek : k ≤ all.length
  long : m.long = fin
  whole : scan (all.take fin) = (fin, m.root, m.marks)
  mid : all.take k = all.take fin ++ datas (m.wait.map (·.2))
  sure : ∀ r ∈ m.sure, ∃ j : Nat, r.1 = j ∧ Rec (all.take fin) j r.2
  wait : ∀ r ∈ m.wait, ∃ j : Nat, r.1 = j ∧ Rec (all.take k) j r.2
  wl : ∀ x ∈ m.wait.map (·.2), x.length ≤ 2147483646
  mk1 : 1 ≤ m.marks
  mk2 : m.marks ≤ k
  cnt : m.sure.length + m.wait.length ≤ k
  more : m.more ≤ k

def laidText (rs : List Str) (rt : Str) : Str := datas rs ++ frame (109 :: rt)
theorem laidText_length (rs : List Str) (rt : Str) : (laidText rs rt).length = (Md.laid rs rt).long := by
  simp only [laidText, Md.laid, List.length_append, frame_length, List.length_cons]
theorem RP.first (rs : List Str) (rt rest : Str) (h1 : ∀ x ∈ rs, x.length ≤ 2147483646) (h2 : rt.length ≤ 2147483646) : RP (laidText rs rt ++ rest) (laidText rs rt).length (laidText rs rt).length (Md.laid rs rt) := by
  have ht : (laidText rs rt ++ rest).take (laidText rs rt).length = laidText rs rt := by rw [List.take_left']; rfl
  have hc := datas_count rs
  have hl : (laidText rs rt).length = (datas rs).length + (rt.length + 9) := by simp only [laidText, List.length_append, frame_length, List.length_cons]
  refine ⟨Nat.le_refl _, by rw [List.length_append]; omega, (laidText_length rs rt).symm, ?_, ?_, ?_, fun r hr => (by cases hr), fun x hx => (by cases hx), Nat.le_refl _, ?_, ?_, Nat.zero_le _⟩
  · rw [ht]
    have := scan_batch [] [] 0 rs rt rfl h1 h2
    simpa [laidText, Md.laid] using this
  · rw [ht]; simp [Md.laid, datas]
  · intro r hr
    rw [ht]
    have := placed_rec rs [] (frame (109 :: rt)) h1 r hr
    simpa [laidText] using this
  · show 1 ≤ _
    omega
  · show (placed 0 rs).length + 0 ≤ _
    rw [placed_length]
    omega

theorem take_frame {all t : Str} {k n : Nat} (hu : unframe all k = (t, n, 0)) (hk : k ≤ all.length) : all.take n = all.take k ++ frame t ∧ n ≤ all.length ∧ n = k + t.length + 8 ∧ t.length ≤ 2147483647 := by
  obtain ⟨⟨rest, h1⟩, h2, h3⟩ := (unframe_iff all k t n).1 hu
  have hl := congrArg List.length h1
  simp only [List.length_drop, List.length_append, frame_length] at hl
  refine ⟨?_, by omega, h3, h2⟩
  have h4 : all = all.take k ++ (frame t ++ rest) := by rw [← h1, List.take_append_drop]
  have h5 : (all.take k).length = k := by rw [List.length_take]; omega
  have h6 : n = (all.take k ++ frame t).length := by rw [List.length_append, h5, frame_length]; omega
  have h7 : all = (all.take k ++ frame t) ++ rest := by rw [List.append_assoc]; exact h4
  have h8 : ((all.take k ++ frame t) ++ rest).take n = all.take k ++ frame t := by rw [h6, List.take_left']; rfl
  rwa [← h7] at h8

/-- What a record adds. -/
def Md.seen (m : Md) (k n : Nat) (t : Str) : Md := { m with wait := m.wait ++ [((k : Int), t)], more := m.more + (n - k) }
/-- What a marker does. -/
def Md.sealed (m : Md) (n : Nat) (t : Str) : Md := ⟨m.sure ++ m.wait, [], n, 0, t, m.marks + 1⟩
theorem RP.data {all t : Str} {k fin n : Nat} {m : Md} (h : RP all k fin m) (hu : unframe all k = (100 :: t, n, 0)) : RP all n fin (m.seen k n t) := by
  obtain ⟨h1, h2, h3, h4⟩ := take_frame hu h.lek
  simp only [List.length_cons] at h3 h4
  have hcl := h.cnt
  have hml := h.more
  have hle := h.le
  refine ⟨by omega, h2, h.long, h.whole, ?_, h.sure, ?_, ?_, h.mk1, by have := h.mk2; simp only [Md.seen]; omega, ?_, by simp only [Md.seen]; omega⟩
  · rw [h1, h.mid]
    simp only [Md.seen, List.map_append, List.map_cons, List.map_nil, datas_append, List.append_assoc]
    simp [datas]
  · intro r hr
    rw [h1]
    rcases List.mem_append.1 hr with hr | hr
    · obtain ⟨j, e, hr⟩ := h.wait r hr
      exact ⟨j, e, hr.append _⟩
    · rw [List.mem_singleton.1 hr]
      have := Rec.last (all.take k) t (by omega)
      rw [List.length_take, Nat.min_eq_left h.lek] at this
      exact ⟨k, rfl, this⟩
  · intro x hx
    simp only [Md.seen, List.map_append, List.map_cons, List.map_nil] at hx
    rcases List.mem_append.1 hx with hx | hx
    · exact h.wl x hx
    · rw [List.mem_singleton.1 hx]; omega
  · simp only [Md.seen, List.length_append, List.length_cons, List.length_nil]; omega
theorem RP.mark {all t : Str} {k fin n : Nat} {m : Md} (h : RP all k fin m) (hu : unframe all k = (109 :: t, n, 0)) : RP all n n (m.sealed n t) := by
  obtain ⟨h1, h2, h3, h4⟩ := take_frame hu h.lek
  simp only [List.length_cons] at h3 h4
  have hcl := h.cnt
  have hle := h.le
  have htl : (all.take fin).length = fin := by rw [List.length_take]; have := h.lek; omega
  have htk : (all.take n).length = n := by rw [List.length_take]; omega
  refine ⟨Nat.le_refl _, h2, rfl, ?_, by simp [Md.sealed, datas], ?_, fun r hr => (by cases hr), fun x hx => (by cases hx), by simp only [Md.sealed]; omega, by have := h.mk2; simp only [Md.sealed]; omega, by simp only [Md.sealed, List.length_append, List.length_nil]; omega, Nat.zero_le _⟩
  · have hw := scan_batch (all.take fin) m.root m.marks (m.wait.map (·.2)) t (by rw [htl]; exact h.whole) h.wl (by omega)
    have e : all.take n = all.take fin ++ (datas (m.wait.map (·.2)) ++ frame (109 :: t)) := by rw [h1, h.mid, List.append_assoc]
    rw [← e, htk] at hw
    exact hw
  · intro r hr
    rw [h1]
    rcases List.mem_append.1 hr with hr | hr
    · obtain ⟨j, e, hr⟩ := h.sure r hr
      rw [h.mid]
      exact ⟨j, e, (hr.append _).append _⟩
    · obtain ⟨j, e, hr⟩ := h.wait r hr
      exact ⟨j, e, hr.append _⟩
/-- Where the law's look ends, the scan has ended. -/
theorem RP.done {all : Str} {k fin : Nat} {m : Md} (h : RP all k fin m) (hst : k = all.length ∨ ∀ c t n, unframe all k = (c :: t, n, 0) → c ≠ 100 ∧ c ≠ 109) : scan all = (fin, m.root, m.marks) := by
  have hle := h.le
  have hlk := h.lek
  have htl : (all.take fin).length = fin := by rw [List.length_take]; omega
  have htk : (all.take k).length = k := by rw [List.length_take]; omega
  have e1 : all = all.take fin ++ all.drop fin := (List.take_append_drop _ _).symm
  have e2 : all = all.take fin ++ (datas (m.wait.map (·.2)) ++ all.drop k) := by rw [← List.append_assoc, ← h.mid, List.take_append_drop]
  have hw := h.whole
  rw [scan_eq] at hw
  have hp := scanF_prefix _ (all.take fin) (all.drop fin) 0 (0, [], 0) (Nat.le_refl _) (Nat.zero_le _) (Nat.le_refl _) (by rw [hw, htl])
  rw [← e1, hw] at hp
  have hd := scanF_datas (m.wait.map (·.2)) (all.take fin) (all.drop k) (fin, m.root, m.marks) h.wl
  rw [← e2, ← h.mid, htk] at hd
  rw [scan_eq, hp, hd]
  rcases hst with hst | hst
  · exact scanF_end _ _ _ (by omega)
  · exact scanF_stop _ hst
theorem RP.holds {all : Str} {k fin : Nat} {m : Md} (h : RP all k fin m) : Holds ⟨all.take fin, [], m.root, m.marks⟩ m.rest :=
  ⟨h.sure, fun r hr => (by cases hr), rfl, rfl, fun h0 => absurd h0 (by have := h.mk1; simp only [Md.rest]; omega), by rw [show (⟨all.take fin, [], m.root, m.marks⟩ : Lg).s = all.take fin from rfl, List.length_take]; have := h.le; have := h.lek; have := h.long; simp only [Md.rest]; omega, rfl⟩

/-! ### the disk of that law -/
def readDisk (all rest : Str) : Dk := ⟨[(logName, all), (freshName, rest)], [(logName, all), (freshName, rest)], [], -1, none, 2, false⟩
theorem write_any (d : Dk) (n s : Str) (h1 : d.may false [n] = 0) (h2 : d.room = -1) : d.write n s = d.commit ⟨1, n, [], s, 0⟩ := by
  unfold Dk.write
  rw [if_neg (by rw [h1]; exact fun h => h rfl), if_neg (by simp [Dk.fits, h2])]
def readDisk1 (all : Str) : Dk := ⟨[(logName, all)], [], [⟨1, logName, [], all, 0⟩], -1, none, 1, false⟩
def readDisk2 (all rest : Str) : Dk := ⟨[(logName, all), (freshName, rest)], [], [⟨1, logName, [], all, 0⟩, ⟨1, freshName, [], rest, 0⟩], -1, none, 2, false⟩
theorem read_write1 (all : Str) : Dk.fresh.write logName all = (0, readDisk1 all) := by
  rw [write_any _ _ _ rfl rfl]; rfl
theorem read_write2 (all rest : Str) : (readDisk1 all).write freshName rest = (0, readDisk2 all rest) := by
  rw [write_any _ _ _ rfl rfl]; rfl
theorem read_sync (all rest : Str) : (readDisk2 all rest).sync = (0, readDisk all rest) := rfl
theorem read_open (all rest root : Str) (fin marks : Nat) (h : scan all = (fin, root, marks)) (hf : fin ≤ all.length) : ∃ c, c ≤ 4 ∧ openW (readDisk all rest) = (some (⟨all.take fin, [], root, marks⟩ : Lg), (all.length : Int) - (fin : Int), 0, dk (-1) c (all.take fin)) := by
  have h1 : openW (readDisk all rest) = openB ((readDisk all rest).remove freshName).2 := rfl
  have h2 : ((readDisk all rest).remove freshName).2.read logName = (all, 0) := rfl
  rw [h1]
  unfold openB
  rw [if_neg (by rw [h2]; exact fun h => h rfl)]
  simp only [h2, h]
  by_cases hlt : fin < all.length
  · rw [if_pos hlt]
    have h3 : ((readDisk all rest).remove freshName).2.truncate logName fin = (0, { dk (-1) 4 (all.take fin) with sure := [(logName, all), (freshName, rest)], loose := [⟨3, freshName, [], [], 0⟩, ⟨4, logName, [], [], fin⟩] }) := by
      have h4 : ((readDisk all rest).remove freshName).2.may true [logName] = 0 := rfl
      have h5 : ((readDisk all rest).remove freshName).2.now.val logName = all := rfl
      unfold Dk.truncate
      rw [if_neg (by rw [h4]; exact fun h => h rfl), if_neg (by rw [h5]; omega)]
      have h6 : (min (fin : Int) (all.length : Int)).toNat = fin := by omega
      have h7 : ((readDisk all rest).remove freshName).2.commit ⟨4, logName, [], [], fin⟩ = (0, { dk (-1) 4 (all.take (min (fin : Int) (all.length : Int)).toNat) with sure := [(logName, all), (freshName, rest)], loose := [⟨3, freshName, [], [], 0⟩, ⟨4, logName, [], [], fin⟩] }) := rfl
      rw [h7, h6]
    rw [if_neg (by rw [h3]; exact fun h => h rfl)]
    rw [h3]
    exact ⟨4, Nat.le_refl _, rfl⟩
  · rw [if_neg hlt]
    have : fin = all.length := by omega
    subst this
    rw [List.take_length]
    exact ⟨3, by decide, rfl⟩

end Go.Proofs.Ytgofngilfdnakaa
