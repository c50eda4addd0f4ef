/-
  This text is plain mathematics: what the law WalOpens goes through: openings that the loss of power ends; no condition, no Go.
-/
import Derived.Test.YtgofngilfdnakaaReadP
namespace Go.Proofs.Ytgofngilfdnakaa
open Go

theorem unframe_take {s t : Str} {k n m : Nat} (hu : unframe s k = (t, n, 0)) (hm : n ≤ m) : unframe (s.take m) k = (t, n, 0) := by
  obtain ⟨⟨rest, h1⟩, h2, h3⟩ := (unframe_iff s k t n).1 hu
  refine (unframe_iff _ _ _ _).2 ⟨⟨rest.take (m - k - (frame t).length), ?_⟩, h2, h3⟩
  rw [List.drop_take, h1, List.take_append, List.take_of_length_le (by rw [frame_length]; omega)]

theorem scanF_cut : ∀ (n : Nat) (s : Str) (k : Nat) (r : Nat × Str × Nat), s.length - k ≤ n → k ≤ s.length → r.1 ≤ k →
    scanF s k r = r ∨ (k < (scanF s k r).1 ∧ (scanF s k r).1 ≤ s.length ∧ scanF (s.take (scanF s k r).1) k r = scanF s k r) := by
  intro n
  induction n with
  | zero =>
    intro s k r h1 h2 h3
    exact .inl (scanF_end s k r (by omega))
  | succ n ih =>
    intro s k r h1 h2 h3
    by_cases hst : ∀ c t n, unframe s k = (c :: t, n, 0) → c ≠ 100 ∧ c ≠ 109
    · exact .inl (scanF_stop r hst)
    · simp only [Classical.not_forall] at hst
      obtain ⟨c, t', m, hu, hc⟩ := hst
      have hc' : c = 100 ∨ c = 109 := by
        rcases Classical.em (c = 100) with h | h
        · exact .inl h
        · rcases Classical.em (c = 109) with h' | h'
          · exact .inr h'
          · exact absurd ⟨h, h'⟩ hc
      obtain ⟨⟨rest, h5⟩, h6, h7⟩ := (unframe_iff s k (c :: t') m).1 hu
      have hl := congrArg List.length h5
      simp only [List.length_drop, List.length_append, frame_length, List.length_cons] at hl h7
      have hs := scanF_step r hu hc'
      have hi := ih s m (if c = 109 then (m, t', r.2.2 + 1) else r) (by omega) (by omega) (by split <;> first | exact Nat.le_refl _ | omega)
      rw [hs]
      rcases hi with hi | ⟨h8, h9, h10⟩
      · rw [hi]
        rcases hc' with rfl | rfl
        · exact .inl rfl
        · refine .inr ⟨?_, ?_, ?_⟩
          · show k < m; omega
          · show m ≤ s.length; omega
          · show scanF (s.take m) k r = _
            rw [scanF_step r (unframe_take hu (Nat.le_refl m)) (.inr rfl)]
            exact scanF_end _ _ _ (by rw [List.length_take]; omega)
      · refine .inr ⟨by omega, h9, ?_⟩
        rw [scanF_step r (unframe_take hu (by omega)) hc']
        exact h10
/-- What is cut behind its last whole marker is read as it was. -/
theorem scan_take (s : Str) : scan (s.take (scan s).1) = scan s := by
  rcases scanF_cut (s.length) s 0 (0, [], 0) (by omega) (Nat.zero_le _) (Nat.le_refl _) with h | ⟨_, _, h⟩
  · rw [← scan_eq] at h
    rw [h]
    exact scanF_end _ _ _ (by simp)
  · exact h

/-- The files of that law: a log that reads as r, and perhaps an unfinished one. -/
inductive OF (r : Nat × Str × Nat) : Files → Prop
  | one (s : Str) (h : scan s = r) : OF r [(logName, s)]
  | two (s x : Str) (h : scan s = r) : OF r [(logName, s), (freshName, x)]
theorem OF.val {r : Nat × Str × Nat} {F : Files} (h : OF r F) : scan (F.val logName) = r := by
  cases h with
  | one s h => exact h
  | two s x h => exact h
theorem OF.has {r : Nat × Str × Nat} {F : Files} (h : OF r F) : F.has logName = true := by
  cases h with
  | one s h => rfl
  | two s x h => rfl
theorem OF.rm {r : Nat × Str × Nat} {F : Files} (h : OF r F) : OF r (F.act ⟨3, freshName, [], [], 0⟩) := by
  cases h with
  | one s h => exact .one s h
  | two s x h => exact .one s h
theorem OF.cut {r : Nat × Str × Nat} {F : Files} (h : OF r F) : OF r (F.act ⟨4, logName, [], [], r.1⟩) := by
  have key : ∀ s, scan s = r → scan (s.take (min (r.1 : Int) (s.length : Int)).toNat) = r := fun s hs => by
    have hb := (scan_bounds s).1
    rw [hs] at hb
    rw [show (min (r.1 : Int) (s.length : Int)).toNat = r.1 by omega]
    have := scan_take s
    rwa [hs] at this
  cases h with
  | one s h => exact .one _ (key s h)
  | two s x h => exact .two _ x (key s h)

/-- A change that leaves such files such files. -/
def Mild (r : Nat × Str × Nat) (c : Chg) : Prop := c.s = [] ∧ c.kind ≠ 2 ∧ ∀ F, OF r F → OF r (F.act c)
theorem mild_rm (r : Nat × Str × Nat) : Mild r ⟨3, freshName, [], [], 0⟩ := ⟨rfl, by decide, fun _ h => h.rm⟩
theorem mild_cut (r : Nat × Str × Nat) : Mild r ⟨4, logName, [], [], r.1⟩ := ⟨rfl, fun e => absurd (show (4 : Nat) = 2 from e) (by decide), fun _ h => h.cut⟩
theorem mild_acts {r : Nat × Str × Nat} : ∀ (l : List Chg) (F : Files), (∀ c ∈ l, Mild r c) → OF r F → OF r (l.foldl Files.act F)
  | [], _, _, h => h
  | c :: l, F, hl, h => mild_acts l (F.act c) (fun d hd => hl d (List.mem_cons_of_mem _ hd)) ((hl c List.mem_cons_self).2.2 F h)
theorem mild_surv {r : Nat × Str × Nat} (keep torn : Int) (l : List Chg) (h : ∀ c ∈ l, Mild r c) : ∀ c ∈ surv keep torn 0 l, Mild r c :=
  (surv_facts keep (Mild r) (fun c q hc => by
    have e : ({ c with s := c.s.take q } : Chg) = c := by
      obtain ⟨k, n, t, s, m⟩ := c
      have := hc.1
      simp only at this
      subst this
      simp
    rw [e]
    exact hc) l torn 0 h).1

/-- The disk of that law, whatever befalls it. -/
structure HD (r : Nat × Str × Nat) (d : Dk) (n : Nat) : Prop where
  room : d.room = -1
  sure : OF r d.sure
  now : OF r d.now
  loose : ∀ c ∈ d.loose, Mild r c
  le : d.le n
theorem HD.crash {r : Nat × Str × Nat} {d : Dk} {n : Nat} (h : HD r d n) (keep torn : Int) : HD r (d.crash keep torn) n := by
  have hle := h.le.crash keep torn
  unfold Dk.crash at hle ⊢
  split
  · exact h
  · rename_i hd
    rw [if_neg hd] at hle
    have := mild_acts _ _ (mild_surv keep torn d.loose h.loose) h.sure
    exact ⟨h.room, this, this, fun c hc => (by cases hc), hle⟩
theorem HD.planned {r : Nat × Str × Nat} {d : Dk} {n : Nat} (h : HD r d n) (o : Option Fall) : HD r { d with falls := o } n :=
  ⟨h.room, h.sure, h.now, h.loose, ⟨h.le.now_len, h.le.now_size, h.le.sure_len, h.le.sure_size, h.le.moves, h.le.changes⟩⟩
theorem HD.up {r : Nat × Str × Nat} {d : Dk} {n : Nat} (h : HD r d n) : HD r { d with down := false } n :=
  ⟨h.room, h.sure, h.now, h.loose, ⟨h.le.now_len, h.le.now_size, h.le.sure_len, h.le.sure_size, h.le.moves, h.le.changes⟩⟩
theorem HD.sync {r : Nat × Str × Nat} {d : Dk} {n : Nat} (h : HD r d n) : HD r d.sync.2 n := by
  have hle := h.le.sync
  unfold Dk.sync at hle ⊢
  split
  · exact h
  · rename_i hd
    rw [if_neg hd] at hle
    exact ⟨h.room, h.now, h.now, fun c hc => (by cases hc), hle⟩
theorem HD.mono {r : Nat × Str × Nat} {d : Dk} {n m : Nat} (h : HD r d n) (hm : n ≤ m) : HD r d m := ⟨h.room, h.sure, h.now, h.loose, h.le.mono hm⟩
theorem HD.commit {r : Nat × Str × Nat} {d : Dk} {n : Nat} (h : HD r d n) {c : Chg} (hc : Mild r c) : HD r (d.commit c).2 (n + 1) := by
  have hd : HD r { d with changes := d.changes + 1, now := d.now.act c, loose := d.loose ++ [c] } (n + 1) :=
    ⟨h.room, h.sure, hc.2.2 _ h.now, fun x hx => by
      rcases List.mem_append.1 hx with hx | hx
      · exact h.loose x hx
      · rw [List.mem_singleton.1 hx]; exact hc, by
      have := h.le.done c (fun e => absurd e hc.2.1)
      rw [hc.1] at this
      exact this⟩
  unfold Dk.commit
  split
  · split
    · exact ((h.planned none).crash _ _).mono (by omega)
    · exact hd
  · exact hd
theorem HD.remove {r : Nat × Str × Nat} {d : Dk} {n : Nat} (h : HD r d n) : HD r (d.remove freshName).2 (n + 1) := by
  unfold Dk.remove
  split
  · exact h.mono (by omega)
  · exact h.commit (mild_rm r)
theorem HD.truncate {r : Nat × Str × Nat} {d : Dk} {n : Nat} (h : HD r d n) : HD r (d.truncate logName r.1).2 (n + 1) := by
  unfold Dk.truncate
  split
  · exact h.mono (by omega)
  · split
    · exact h.mono (by omega)
    · exact h.commit (mild_cut r)
theorem HD.openB {r : Nat × Str × Nat} {d : Dk} {n : Nat} (h : HD r d n) : HD r (openB d).2.2.2 (n + 1) := by
  unfold Proofs.Ytgofngilfdnakaa.openB
  split
  · exact h.sync.mono (by omega)
  · rename_i h0
    have hr : (d.read logName).1 = d.now.val logName := by
      unfold Dk.read at h0 ⊢
      split
      · rename_i h1
        rw [if_pos h1] at h0
        exact absurd h1 h0
      · rfl
    simp only [hr, h.now.val]
    split
    · split
      · exact h.truncate
      · exact h.truncate.sync
    · exact h.sync.mono (by omega)
theorem HD.openW {r : Nat × Str × Nat} {d : Dk} {n : Nat} (h : HD r d n) : HD r (openW d).2.2.2 (n + 2) := by
  unfold Proofs.Ytgofngilfdnakaa.openW
  split
  · exact h.mono (by omega)
  · split
    · split
      · exact h.remove.mono (by omega)
      · exact h.remove.openB
    · exact h.openB.mono (by omega)
theorem commit_none {d : Dk} (h : d.falls = none) (c : Chg) : d.commit c = (0, { d with changes := d.changes + 1, now := d.now.act c, loose := d.loose ++ [c] }) := by
  unfold Dk.commit
  rw [h]
theorem sync_up {d : Dk} (h : d.down = false) : d.sync = (0, { d with sure := d.now, loose := [] }) := by
  unfold Dk.sync
  rw [if_neg (by rw [h]; decide)]
theorem HD.findsB {r : Nat × Str × Nat} {d : Dk} {n : Nat} (h : HD r d n) (hd : d.down = false) (hf : d.falls = none) : ∃ s e d', Proofs.Ytgofngilfdnakaa.openB d = (some (⟨s, [], r.2.1, r.2.2⟩ : Lg), e, 0, d') ∧ s.length = r.1 := by
  have hm : d.may true [logName] = 0 := by
    unfold Dk.may
    rw [if_neg (by rw [hd]; decide), if_neg (by decide), if_neg (by simp [h.now.has])]
  have hr : d.read logName = (d.now.val logName, 0) := by
    unfold Dk.read
    rw [if_neg (by rw [hm]; decide)]
  have hb := (scan_bounds (d.now.val logName)).1
  rw [h.now.val] at hb
  unfold Proofs.Ytgofngilfdnakaa.openB
  rw [if_neg (by rw [hr]; exact fun h => h rfl)]
  simp only [hr, h.now.val]
  have hlen : ((d.now.val logName).take r.1).length = r.1 := by rw [List.length_take]; omega
  split
  · have ht : d.truncate logName r.1 = (0, { d with changes := d.changes + 1, now := d.now.act ⟨4, logName, [], [], r.1⟩, loose := d.loose ++ [⟨4, logName, [], [], r.1⟩] }) := by
      unfold Dk.truncate
      rw [if_neg (by rw [hm]; decide), if_neg (by omega)]
      exact commit_none hf _
    rw [ht, if_neg (fun h => h rfl)]
    simp only
    rw [sync_up (by exact hd)]
    exact ⟨_, _, _, rfl, hlen⟩
  · rw [sync_up hd]
    exact ⟨_, _, _, rfl, hlen⟩
/-- An opening that nothing ends finds what the first would have found. -/
theorem HD.finds {r : Nat × Str × Nat} {d : Dk} {n : Nat} (h : HD r d n) (hd : d.down = false) (hf : d.falls = none) : ∃ s e d', Proofs.Ytgofngilfdnakaa.openW d = (some (⟨s, [], r.2.1, r.2.2⟩ : Lg), e, 0, d') ∧ s.length = r.1 := by
  unfold Proofs.Ytgofngilfdnakaa.openW
  rw [if_neg (by rw [hd]; decide)]
  split
  · rename_i h0
    have hm : d.may true [freshName] = 0 := by
      unfold Dk.read at h0
      split at h0
      · rename_i h1
        exact absurd h0 h1
      · rename_i h1
        exact Classical.not_not.1 h1
    have hr : d.remove freshName = (0, { d with changes := d.changes + 1, now := d.now.act ⟨3, freshName, [], [], 0⟩, loose := d.loose ++ [⟨3, freshName, [], [], 0⟩] }) := by
      unfold Dk.remove
      rw [if_neg (by rw [hm]; decide)]
      exact commit_none hf _
    have h2 := h.remove
    rw [hr] at h2 ⊢
    rw [if_neg (fun h => h rfl)]
    exact h2.findsB hd hf
  · exact h.findsB hd hf
theorem crash_falls (d : Dk) (keep torn : Int) : (d.crash keep torn).falls = d.falls := by
  unfold Dk.crash
  split <;> rfl
theorem HD.first (all rest : Str) : HD (scan all) (readDisk all rest) (all.length + rest.length + 2) :=
  ⟨rfl, .two all rest rfl, .two all rest rfl, fun c hc => (by cases hc), by
    refine ⟨?_, ?_, ?_, ?_, fun c hc => (by cases hc), ?_⟩ <;> simp [readDisk, Files.size, sumS] <;> omega⟩

end Go.Proofs.Ytgofngilfdnakaa
