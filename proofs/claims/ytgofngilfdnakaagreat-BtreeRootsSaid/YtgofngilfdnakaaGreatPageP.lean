/-
  This text is plain mathematics: a page's bytes, and what a reader takes of them; records in a log that grows; no condition, no Go.
-/
import Derived.Test.YtgofngilfdnakaaGreatBtP3
import Derived.Test.YtgofngilfdnakaaGreatWalP
namespace Go.Proofs.YtgofngilfdnakaaGreat
open Go

/-- A page's bytes. -/
def encP (p : Pg) : Str := numLE (if p.leaf then 1 else 0) 1 ++ (numLE p.keys.length 1 ++ (p.keys.flatMap text ++ (p.vals.flatMap text ++ p.kids.flatMap (fun k => numLE k 4))))

theorem rd_number (n k : Nat) (rest : Str) (took : Nat) (h : n < 256 ^ k) : (⟨numLE n k ++ rest, took, 0⟩ : Rd).number k = (n, ⟨rest, took + k, 0⟩) := by
  have hn : ofLE (numLE n k) = n := by rw [ofLE_numLE]; exact Nat.mod_eq_of_lt h
  unfold Rd.number Rd.bytes
  rw [if_neg (by simp [numLE_length])]
  simp only [ne_eq, not_true_eq_false, if_false]
  rw [List.take_left' (numLE_length _ _), List.drop_left' (numLE_length _ _), hn]
theorem rd_count (n m : Nat) (rest : Str) (took : Nat) (h : n ≤ m) (h2 : n < 4294967296) : (⟨numLE n 4 ++ rest, took, 0⟩ : Rd).count m = (n, ⟨rest, took + 4, 0⟩) := by
  unfold Rd.count
  rw [rd_number n 4 rest took (by simpa using h2), if_neg (by simp only; omega)]
theorem rd_text (s : Str) (m : Nat) (rest : Str) (took : Nat) (h : s.length ≤ m) (h2 : s.length < 4294967296) : (⟨text s ++ rest, took, 0⟩ : Rd).text m = (s, ⟨rest, took + 4 + s.length, 0⟩) := by
  unfold Rd.text text
  rw [List.append_assoc, rd_count _ _ _ _ h h2]
  unfold Rd.bytes
  rw [if_neg (by simp)]
  simp

theorem flat_drop (f : Str → Str) (l : List Str) (i : Nat) (h : i < l.length) : (l.drop i).flatMap f = f l[i] ++ (l.drop (i + 1)).flatMap f := by
  rw [List.drop_eq_getElem_cons h, List.flatMap_cons]
theorem flat_drop' (f : Nat → Str) (l : List Nat) (i : Nat) (h : i < l.length) : (l.drop i).flatMap f = f l[i] ++ (l.drop (i + 1)).flatMap f := by
  rw [List.drop_eq_getElem_cons h, List.flatMap_cons]
theorem texts_le (m : Nat) : ∀ l : List Str, (∀ s ∈ l, s.length ≤ m) → (l.flatMap text).length ≤ l.length * (m + 4)
  | [], _ => by simp
  | s :: l, h => by
    have h1 := texts_le m l (fun x hx => h x (List.mem_cons_of_mem _ hx))
    have h2 := h s List.mem_cons_self
    rw [List.flatMap_cons, List.length_append, text_length, List.length_cons, Nat.add_mul, Nat.one_mul]
    omega
theorem nums_len : ∀ l : List Nat, (l.flatMap (fun k => numLE k 4)).length = l.length * 4
  | [] => by simp
  | s :: l => by
    have h1 := nums_len l
    rw [List.flatMap_cons, List.length_append, numLE_length, List.length_cons, h1]
    omega
theorem encP_le {p : Pg} (h : pgOk p) : (encP p).length ≤ 70000 := by
  obtain ⟨_, h2, h3, h4, h5⟩ := h
  have e1 := texts_le 64 p.keys (fun s hs => (h2 s hs).2)
  unfold encP
  simp only [List.length_append, numLE_length, nums_len]
  cases hl : p.leaf with
  | true =>
    obtain ⟨g1, g2, g3⟩ := h4 hl
    have e2 := texts_le 8192 p.vals g3
    rw [g1]
    simp only [List.length_nil]
    omega
  | false =>
    obtain ⟨g1, g2, g3, g4⟩ := h5 hl
    rw [g1]
    simp only [List.flatMap_nil, List.length_nil]
    omega

/-! ### records in a log that grows -/
theorem unframe_grow {s x : Str} {k : Nat} {t : Str} {n : Nat} (h : unframe s k = (t, n, 0)) (hk : k ≤ s.length) : unframe (s ++ x) k = (t, n, 0) := by
  obtain ⟨⟨rest, h1⟩, h2, h3⟩ := (unframe_iff s k t n).1 h
  exact (unframe_iff _ _ _ _).2 ⟨⟨rest ++ x, by rw [List.drop_append_of_le_length hk, h1, List.append_assoc]⟩, h2, h3⟩
theorem unframe_last (s x : Str) (h : x.length ≤ 2147483647) : unframe (s ++ frame x) s.length = (x, s.length + x.length + 8, 0) :=
  (unframe_iff _ _ _ _).2 ⟨⟨[], by rw [List.drop_left, List.append_nil]⟩, h, rfl⟩
theorem asRecord_ok {r : Str × Nat × Int} {t : Str} (h : asRecord r = (t, 0)) : ∃ n, r = (100 :: t, n, 0) := by
  obtain ⟨u, n, e⟩ := r
  cases u with
  | nil => simp [asRecord] at h
  | cons c u =>
    have h : (if e ≠ 0 then (([], 2) : Str × Int) else if c = 100 then (u, 0) else ([], 2)) = (t, 0) := h
    by_cases he : e ≠ 0
    · rw [if_pos he] at h; simp at h
    · rw [if_neg he] at h
      by_cases hc : c = 100
      · rw [if_pos hc] at h
        simp only [Prod.mk.injEq, and_true] at h
        exact ⟨n, by rw [hc, h]; simp at he; rw [he]⟩
      · rw [if_neg hc] at h; simp at h
theorem readAt_grow {s x : Str} {k : Int} {t : Str} (h : readAt s k = (t, 0)) : readAt (s ++ x) k = (t, 0) := by
  unfold readAt at h ⊢
  by_cases h1 : k < 0 ∨ k ≥ (s.length : Int)
  · rw [if_pos h1] at h; simp at h
  · rw [if_neg h1] at h
    obtain ⟨n, hn⟩ := asRecord_ok h
    rw [if_neg (by rw [List.length_append]; omega), unframe_grow hn (by omega)]
    rfl
theorem read_grow {g : Lg} {k : Int} {t : Str} (x : Str) (h : g.read k = (t, 0)) : ({ g with wait := g.wait ++ x } : Lg).read k = (t, 0) := by
  unfold Lg.read at h ⊢
  by_cases h1 : k ≥ (g.s.length : Int)
  · rw [if_pos h1] at h ⊢
    exact readAt_grow h
  · rw [if_neg h1] at h ⊢
    exact h
theorem read_new (g : Lg) (s : Str) (h : s.length ≤ 1048576) : ({ g with wait := g.wait ++ frame (100 :: s) } : Lg).read ((g.s.length + g.wait.length : Nat) : Int) = (s, 0) := by
  have h2 : ((g.s.length + g.wait.length : Nat) : Int) ≥ (g.s.length : Int) := by omega
  unfold Lg.read
  rw [if_pos h2]
  unfold readAt
  have h3 := frame_length (100 :: s)
  rw [if_neg (by simp only [List.length_append, h3]; omega)]
  have e : ((((g.s.length + g.wait.length : Nat) : Int) - (g.s.length : Int))).toNat = g.wait.length := by omega
  rw [e, unframe_last _ _ (by simp only [List.length_cons]; omega)]
  rfl
theorem read_lt {g : Lg} {k : Int} {t : Str} (h : g.read k = (t, 0)) : 0 ≤ k ∧ k < ((g.s.length + g.wait.length : Nat) : Int) := by
  unfold Lg.read at h
  by_cases h1 : k ≥ (g.s.length : Int)
  · rw [if_pos h1] at h
    unfold readAt at h
    by_cases h2 : k - (g.s.length : Int) < 0 ∨ k - (g.s.length : Int) ≥ (g.wait.length : Int)
    · rw [if_pos h2] at h; simp at h
    · omega
  · rw [if_neg h1] at h
    unfold readAt at h
    by_cases h2 : k < 0 ∨ k ≥ (g.s.length : Int)
    · rw [if_pos h2] at h; simp at h
    · omega

/-- A page of a log. -/
def rdG (g : Lg) (k : Nat) (q : Pg) : Prop := pgOk q ∧ g.read (k : Int) = (encP q, 0)
theorem rdG_grow {g : Lg} {k : Nat} {q : Pg} (x : Str) (h : rdG g k q) : rdG { g with wait := g.wait ++ x } k q := ⟨h.1, read_grow x h.2⟩
theorem rdG_lt {g : Lg} {k : Nat} {q : Pg} (h : rdG g k q) : k < g.s.length + g.wait.length := by
  have := (read_lt h.2).2
  omega
/-- A page is laid behind. -/
def Lg.lay (g : Lg) (q : Pg) : Lg := { g with wait := g.wait ++ frame (100 :: encP q) }
theorem lay_append {g : Lg} {q : Pg} (h : pgOk q) : g.append (encP q) = (((g.s.length + g.wait.length : Nat) : Int), 0, g.lay q) := by
  have := encP_le h
  unfold Lg.append
  rw [if_neg (by omega)]
  rfl
theorem lay_new {g : Lg} {q : Pg} (h : pgOk q) : rdG (g.lay q) (g.s.length + g.wait.length) q := ⟨h, read_new g _ (by have := encP_le h; omega)⟩
theorem lay_old {g : Lg} {k : Nat} {q r : Pg} (h : rdG g k r) : rdG (g.lay q) k r := rdG_grow _ h
theorem lay_size {g : Lg} {q : Pg} (h : pgOk q) : (g.lay q).wait.length ≤ g.wait.length + 70100 := by
  have := encP_le h
  unfold Lg.lay
  simp only [List.length_append, frame_length, List.length_cons]
  omega

end Go.Proofs.YtgofngilfdnakaaGreat
