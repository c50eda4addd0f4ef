/-
  This text is plain mathematics: when a log has what the model of cupellaw04 has, and what a scan finds; no condition, no Go.
-/
import Derived.Test.YtgofngilfdnakaaWalP
namespace Go.Proofs.Ytgofngilfdnakaa
open Go

theorem scanG_fuel : ∀ (f f' : Nat) (s : Str) (k : Nat) (r : Nat × Str × Nat), s.length + 1 ≤ f + k → s.length + 1 ≤ f' + k → scanG f s k r = scanG f' s k r
  | 0, 0, _, _, _, _, _ => rfl
  | 0, f' + 1, s, k, r, h, _ => by simp only [scanG]; rw [if_neg (by omega)]
  | f + 1, 0, s, k, r, _, h => by simp only [scanG]; rw [if_neg (by omega)]
  | f + 1, f' + 1, s, k, r, h, h' => by
    simp only [scanG]
    split
    · split
      · rename_i c t n e hu
        split
        · rfl
        · rename_i he
          have he0 : e = 0 := by simpa using he
          subst he0
          obtain ⟨_, _, h5⟩ := (unframe_iff s k (c :: t) n).1 hu
          simp only [List.length_cons] at h5
          rw [scanG_fuel f f' s n _ (by omega) (by omega), scanG_fuel f f' s n r (by omega) (by omega)]
      · rfl
    · rfl

/-- The scan from a place on. -/
def scanF (s : Str) (k : Nat) (r : Nat × Str × Nat) : Nat × Str × Nat := scanG (s.length + 1) s k r
theorem scan_eq (s : Str) : scan s = scanF s 0 (0, [], 0) := rfl
theorem scanF_end (s : Str) (k : Nat) (r : Nat × Str × Nat) (h : s.length ≤ k) : scanF s k r = r := by
  simp only [scanF, scanG]; rw [if_neg (by omega)]
theorem scanF_step {s : Str} {k n : Nat} {c : UInt8} {t : Str} (r : Nat × Str × Nat) (hu : unframe s k = (c :: t, n, 0)) (hc : c = 100 ∨ c = 109) : scanF s k r = scanF s n (if c = 109 then (n, t, r.2.2 + 1) else r) := by
  obtain ⟨⟨rest, h3⟩, h4, h5⟩ := (unframe_iff s k (c :: t) n).1 hu
  have hl := congrArg List.length h3
  simp only [List.length_drop, List.length_append, frame_length, List.length_cons] at hl h5
  have h0 : scanF s k r = scanG s.length s n (if c = 109 then (n, t, r.2.2 + 1) else r) := by
    simp only [scanF, scanG]
    rw [if_pos (by omega), hu]
    rcases hc with rfl | rfl <;> simp
  rw [h0]
  exact scanG_fuel _ _ _ _ _ (by omega) (by omega)
/-- A place at which the scan stops. -/
theorem scanF_stop {s : Str} {k : Nat} (r : Nat × Str × Nat) (h : ∀ c t n, unframe s k = (c :: t, n, 0) → c ≠ 100 ∧ c ≠ 109) : scanF s k r = r := by
  simp only [scanF, scanG]
  split
  · split
    · rename_i c t n e hu
      split
      · rfl
      · rename_i he
        have he0 : e = 0 := by simpa using he
        subst he0
        have := h c t n hu
        rw [if_neg this.2, if_neg this.1]
    · rfl
  · rfl

theorem unframe_at (a x rest : Str) (h : x.length ≤ 2147483647) : unframe (a ++ (frame x ++ rest)) a.length = (x, a.length + x.length + 8, 0) :=
  (unframe_iff _ _ _ _).2 ⟨⟨rest, by simp⟩, h, rfl⟩
theorem scanF_data (a x rest : Str) (r : Nat × Str × Nat) (h : x.length ≤ 2147483646) : scanF (a ++ (frame (100 :: x) ++ rest)) a.length r = scanF (a ++ (frame (100 :: x) ++ rest)) (a ++ frame (100 :: x)).length r := by
  have := scanF_step r (unframe_at a (100 :: x) rest (by simp only [List.length_cons]; omega)) (.inl rfl)
  rw [this, if_neg (by decide)]
  simp [frame_length, Nat.add_assoc]
theorem scanF_mark (a x rest : Str) (r : Nat × Str × Nat) (h : x.length ≤ 2147483646) : scanF (a ++ (frame (109 :: x) ++ rest)) a.length r = scanF (a ++ (frame (109 :: x) ++ rest)) (a ++ frame (109 :: x)).length ((a ++ frame (109 :: x)).length, x, r.2.2 + 1) := by
  have := scanF_step r (unframe_at a (109 :: x) rest (by simp only [List.length_cons]; omega)) (.inr rfl)
  rw [this, if_pos rfl]
  simp [frame_length, Nat.add_assoc]
theorem scanF_prefix : ∀ (n : Nat) (s t : Str) (k : Nat) (r : Nat × Str × Nat), s.length - k ≤ n → k ≤ s.length → r.1 ≤ k → (scanF s k r).1 = s.length → scanF (s ++ t) k r = scanF (s ++ t) s.length (scanF s k r) := by
  intro n
  induction n with
  | zero =>
    intro s t k r h1 h2 h3 h4
    have : k = s.length := by omega
    subst this
    rw [scanF_end s _ r (Nat.le_refl _)]
  | succ n ih =>
    intro s t k r h1 h2 h3 h4
    by_cases hk : k = s.length
    · subst hk
      rw [scanF_end s _ r (Nat.le_refl _)]
    · by_cases hst : ∀ c t n, unframe s k = (c :: t, n, 0) → c ≠ 100 ∧ c ≠ 109
      · rw [scanF_stop r hst] at h4
        omega
      · simp only [Classical.not_forall] at hst
        obtain ⟨c, t', m, hu, hc⟩ := hst
        have hc' : c = 100 ∨ c = 109 := by
          rcases Classical.em (c = 100) with h | h
          · exact .inl h
          · rcases Classical.em (c = 109) with h' | h'
            · exact .inr h'
            · exact absurd ⟨h, h'⟩ hc
        obtain ⟨⟨rest, h5⟩, h6, h7⟩ := (unframe_iff s k (c :: t') m).1 hu
        have hl := congrArg List.length h5
        simp only [List.length_drop, List.length_append, frame_length, List.length_cons] at hl h7
        have hu2 : unframe (s ++ t) k = (c :: t', m, 0) := (unframe_iff _ _ _ _).2 ⟨⟨rest ++ t, by rw [List.drop_append_of_le_length h2, h5, List.append_assoc]⟩, h6, by simp only [List.length_cons]; omega⟩
        rw [scanF_step r hu hc'] at h4 ⊢
        rw [scanF_step r hu2 hc']
        exact ih s t m _ (by omega) (by omega) (by split <;> first | exact Nat.le_refl _ | omega) h4

/-- Frames of records. -/
def datas (l : List Str) : Str := (l.map fun x => frame (100 :: x)).flatten
theorem datas_cons (x : Str) (l : List Str) : datas (x :: l) = frame (100 :: x) ++ datas l := rfl
theorem datas_append (l l' : List Str) : datas (l ++ l') = datas l ++ datas l' := by simp [datas]
theorem scanF_datas : ∀ (l : List Str) (a rest : Str) (r : Nat × Str × Nat), (∀ x ∈ l, x.length ≤ 2147483646) → scanF (a ++ (datas l ++ rest)) a.length r = scanF (a ++ (datas l ++ rest)) (a ++ datas l).length r
  | [], a, rest, r, _ => by simp [datas]
  | x :: l, a, rest, r, h => by
    have h1 := scanF_data a x (datas l ++ rest) r (h x List.mem_cons_self)
    have h2 := scanF_datas l (a ++ frame (100 :: x)) rest r (fun y hy => h y (List.mem_cons_of_mem _ hy))
    rw [datas_cons]
    simp only [List.append_assoc] at h1 h2 ⊢
    rw [h1, h2]
/-- **A batch behind what is whole is whole.** -/
theorem scan_batch (s root : Str) (marks : Nat) (l : List Str) (x : Str) (h : scan s = (s.length, root, marks)) (hl : ∀ y ∈ l, y.length ≤ 2147483646) (hx : x.length ≤ 2147483646) :
    scan (s ++ (datas l ++ frame (109 :: x))) = ((s ++ (datas l ++ frame (109 :: x))).length, x, marks + 1) := by
  rw [scan_eq] at h ⊢
  rw [scanF_prefix _ s _ 0 _ (Nat.le_refl _) (Nat.zero_le _) (Nat.le_refl _) (by rw [h]), h, scanF_datas l s _ _ hl]
  have := scanF_mark (s ++ datas l) x [] (s.length, root, marks) hx
  rw [List.append_nil] at this
  rw [← List.append_assoc, this, scanF_end _ _ _ (Nat.le_refl _)]

/-! ### records at their places -/
/-- Bytes have a record at a place. -/
def Rec (s : Str) (k : Nat) (t : Str) : Prop := ∃ a rest, s = a ++ (frame (100 :: t) ++ rest) ∧ k = a.length ∧ t.length ≤ 2147483646
theorem Rec.append {s t : Str} {k : Nat} (h : Rec s k t) (u : Str) : Rec (s ++ u) k t := by
  obtain ⟨a, rest, rfl, h2, h3⟩ := h
  exact ⟨a, rest ++ u, by simp, h2, h3⟩
theorem Rec.shift {s t : Str} {k : Nat} (h : Rec s k t) (u : Str) : Rec (u ++ s) (u.length + k) t := by
  obtain ⟨a, rest, rfl, h2, h3⟩ := h
  exact ⟨u ++ a, rest, by simp, by simp [h2], h3⟩
theorem Rec.lt {s t : Str} {k : Nat} (h : Rec s k t) : k + 9 ≤ s.length := by
  obtain ⟨a, rest, rfl, rfl, h3⟩ := h
  simp only [List.length_append, frame_length, List.length_cons]
  omega
theorem Rec.read {s t : Str} {k : Nat} (h : Rec s k t) : readAt s k = (t, 0) := by
  have hlt := h.lt
  obtain ⟨a, rest, rfl, rfl, h3⟩ := h
  unfold readAt
  rw [if_neg (by omega), Int.toNat_natCast, unframe_at a (100 :: t) rest (by simp only [List.length_cons]; omega), asRecord_cons]
  rfl
theorem Rec.last (s t : Str) (h : t.length ≤ 2147483646) : Rec (s ++ frame (100 :: t)) s.length t := ⟨s, [], by simp, rfl, h⟩

/-- The model of a log. -/
structure Md where
  sure : List (Int × Str)
  wait : List (Int × Str)
  long : Nat
  more : Nat
  root : Str
  marks : Nat
def Md.commit (m : Md) (root : Str) : Md := ⟨m.sure ++ m.wait, [], m.long + (m.more + (root.length + 9)), 0, root, m.marks + 1⟩
def Md.rest (m : Md) : Md := { m with wait := [], more := 0 }
def Md.add (m : Md) (s : Str) : Md := { m with wait := m.wait ++ [(((m.long + m.more : Nat) : Int), s)], more := m.more + (s.length + 9) }
def Md.zero : Md := ⟨[], [], 0, 0, [], 0⟩

/-- A log has what the model has. -/
structure Agree (g : Lg) (m : Md) : Prop where
  recs : ∀ r ∈ m.sure ++ m.wait, g.read r.1 = (r.2, 0) ∧ 0 ≤ r.1 ∧ r.1 ≤ 1000000000000
  marks : g.marks = m.marks
  root : g.root = m.root
  none : m.marks = 0 → m.root = []
  long : g.s.length = m.long
  more : g.wait.length = m.more
/-- A log has what the model has, place by place. -/
structure Holds (g : Lg) (m : Md) : Prop where
  sure : ∀ r ∈ m.sure, ∃ k : Nat, r.1 = k ∧ Rec g.s k r.2
  wait : ∀ r ∈ m.wait, ∃ k : Nat, r.1 = (g.s.length + k : Nat) ∧ Rec g.wait k r.2
  marks : g.marks = m.marks
  root : g.root = m.root
  none : m.marks = 0 → m.root = []
  long : g.s.length = m.long
  more : g.wait.length = m.more
theorem Holds.agree {g : Lg} {m : Md} (h : Holds g m) (h1 : m.long + m.more ≤ 1000000000000) : Agree g m := by
  refine ⟨fun r hr => ?_, h.marks, h.root, h.none, h.long, h.more⟩
  have hl := h.long
  have hm := h.more
  rcases List.mem_append.1 hr with hr | hr
  · obtain ⟨k, hk, hrec⟩ := h.sure r hr
    have := hrec.lt
    rw [hk]
    refine ⟨?_, by omega, by omega⟩
    unfold Lg.read
    rw [if_neg (by omega)]
    exact hrec.read
  · obtain ⟨k, hk, hrec⟩ := h.wait r hr
    have := hrec.lt
    rw [hk]
    refine ⟨?_, by omega, by omega⟩
    unfold Lg.read
    rw [if_pos (by omega), show ((g.s.length + k : Nat) : Int) - (g.s.length : Int) = (k : Int) by omega]
    exact hrec.read
theorem Holds.zero : Holds ⟨[], [], [], 0⟩ Md.zero := ⟨fun r h => (by cases h), fun r h => (by cases h), rfl, rfl, fun _ => rfl, rfl, rfl⟩
theorem Holds.rest {g : Lg} {m : Md} (h : Holds g m) : Holds { g with wait := [] } m.rest := ⟨h.sure, fun r hr => (by cases hr), h.marks, h.root, h.none, h.long, rfl⟩
theorem Holds.add {g : Lg} {m : Md} (h : Holds g m) (s : Str) (hs : s.length ≤ 2147483646) : Holds { g with wait := g.wait ++ frame (100 :: s) } (m.add s) := by
  refine ⟨h.sure, fun r hr => ?_, h.marks, h.root, h.none, h.long, by simp only [Md.add, List.length_append, frame_length, List.length_cons, h.more]⟩
  rcases List.mem_append.1 hr with hr | hr
  · obtain ⟨k, hk, hrec⟩ := h.wait r hr
    exact ⟨k, hk, hrec.append _⟩
  · rw [List.mem_singleton.1 hr]
    exact ⟨g.wait.length, by simp only [h.long, h.more], Rec.last _ _ hs⟩
theorem Holds.commit {g : Lg} {m : Md} (h : Holds g m) (x : Str) : Holds ⟨g.s ++ (g.wait ++ frame (109 :: x)), [], x, g.marks + 1⟩ (m.commit x) := by
  refine ⟨fun r hr => ?_, fun r hr => (by cases hr), by simp [Md.commit, h.marks], rfl, fun h0 => absurd h0 (Nat.succ_ne_zero _), by simp only [Md.commit, List.length_append, frame_length, List.length_cons, h.long, h.more], rfl⟩
  rcases List.mem_append.1 hr with hr | hr
  · obtain ⟨k, hk, hrec⟩ := h.sure r hr
    exact ⟨k, hk, hrec.append _⟩
  · obtain ⟨k, hk, hrec⟩ := h.wait r hr
    exact ⟨g.s.length + k, hk, (hrec.append _).shift _⟩

end Go.Proofs.Ytgofngilfdnakaa
