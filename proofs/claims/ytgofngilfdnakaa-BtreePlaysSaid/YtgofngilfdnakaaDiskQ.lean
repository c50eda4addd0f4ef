/-
  This text is plain mathematics: how large a disk's files can be behind what is done; no condition, no Go.
-/
import Derived.Test.YtgofngilfdnakaaFiles
namespace Go.Proofs.Ytgofngilfdnakaa
open Go

theorem Files.size_del_add (F : Files) (k : Str) : (F.del k).size + (F.val k).length ≤ F.size := by
  unfold Files.val Files.get Files.del
  induction F with
  | nil => simp [Files.size]
  | cons y r ih =>
    rw [List.filter_cons, List.find?_cons]
    by_cases h : y.1 = k
    · have h' : (y.1 == k) = true := by simpa using h
      simp only [h', Bool.not_true, Bool.false_eq_true, if_false, Option.map_some, Option.getD_some, Files.size]
      have := Files.size_del_le r k
      unfold Files.del at this
      omega
    · have h' : (y.1 == k) = false := by simpa using h
      simp only [h', Bool.not_false, if_true, Files.size]
      omega
theorem Files.size_put (F : Files) (k v : Str) : (F.put k v).size + (F.val k).length ≤ F.size + v.length := by
  unfold Files.put
  rw [Files.size_ins]
  have := Files.size_del_add F k
  simp only
  omega
theorem Files.val_put_ne (F : Files) {k j : Str} (v : Str) (h : j ≠ k) : (F.put k v).val j = F.val j := by
  unfold Files.val
  rw [Files.get_put, if_neg h]
theorem Files.act_size (F : Files) (c : Chg) (h : c.kind = 2 → c.name ≠ c.to) : (F.act c).size ≤ F.size + c.s.length := by
  unfold Files.act
  split
  · have := Files.size_put F c.name (F.val c.name ++ c.s)
    rw [List.length_append] at this
    omega
  · split
    · have := Files.size_put F c.name c.s
      omega
    · split
      · rename_i h2
        split
        · have h1 := Files.size_del_add (F.put c.to (F.val c.name)) c.name
          rw [Files.val_put_ne F _ (h h2)] at h1
          have h3 := Files.size_put F c.to (F.val c.name)
          omega
        · omega
      · split
        · have := Files.size_del_le F c.name
          omega
        · split
          · split
            · have := Files.size_put F c.name ((F.val c.name).take (min c.n (F.val c.name).length).toNat)
              rw [List.length_take] at this
              omega
            · omega
          · omega
theorem Files.act_length (F : Files) (c : Chg) : (F.act c).length ≤ F.length + 1 := by
  unfold Files.act
  split
  · exact Files.put_length _ _ _
  · split
    · exact Files.put_length _ _ _
    · split
      · split
        · exact Nat.le_trans (Files.del_length _ _) (Files.put_length _ _ _)
        · omega
      · split
        · have := Files.del_length F c.name; omega
        · split
          · split
            · exact Files.put_length _ _ _
            · omega
          · omega

/-- The bytes of changes. -/
def sumS (l : List Chg) : Nat := (l.map (·.s.length)).sum
theorem sumS_cons (c : Chg) (l : List Chg) : sumS (c :: l) = c.s.length + sumS l := by simp [sumS]
theorem sumS_append (l l' : List Chg) : sumS (l ++ l') = sumS l + sumS l' := by simp [sumS]
theorem Files.acts_size : ∀ (l : List Chg) (F : Files), (∀ c ∈ l, c.kind = 2 → c.name ≠ c.to) → (l.foldl Files.act F).size ≤ F.size + sumS l
  | [], F, _ => by simp [sumS]
  | c :: l, F, h => by
    rw [List.foldl_cons, sumS_cons]
    have h1 := Files.acts_size l (F.act c) (fun d hd => h d (List.mem_cons_of_mem _ hd))
    have h2 := Files.act_size F c (h c List.mem_cons_self)
    omega
theorem Files.acts_length : ∀ (l : List Chg) (F : Files), (l.foldl Files.act F).length ≤ F.length + l.length
  | [], F => by simp
  | c :: l, F => by
    rw [List.foldl_cons, List.length_cons]
    have h1 := Files.acts_length l (F.act c)
    have h2 := Files.act_length F c
    omega
theorem surv_facts (keep : Int) (P : Chg → Prop) (hP : ∀ c q, P c → P { c with s := c.s.take q }) : ∀ (l : List Chg) (torn : Int) (i : Nat), (∀ c ∈ l, P c) →
    (∀ c ∈ surv keep torn i l, P c) ∧ (surv keep torn i l).length ≤ l.length ∧ sumS (surv keep torn i l) ≤ sumS l
  | [], _, _, _ => by simp [surv]
  | c :: r, torn, i, h => by
    have hr := fun t => surv_facts keep P hP r t (i + 1) (fun d hd => h d (List.mem_cons_of_mem _ hd))
    have hc := h c List.mem_cons_self
    unfold surv
    split
    · obtain ⟨h1, h2, h3⟩ := hr torn
      refine ⟨fun d hd => ?_, by simp only [List.length_cons]; omega, by rw [sumS_cons, sumS_cons]; omega⟩
      rcases List.mem_cons.1 hd with rfl | hd
      · exact hc
      · exact h1 d hd
    · split
      · obtain ⟨h1, h2, h3⟩ := hr 0
        exact ⟨h1, by simp only [List.length_cons]; omega, by rw [sumS_cons]; omega⟩
      · obtain ⟨h1, h2, h3⟩ := hr 0
        refine ⟨fun d hd => ?_, by simp only [List.length_cons]; omega, by rw [sumS_cons, sumS_cons]; simp only [List.length_take]; omega⟩
        rcases List.mem_cons.1 hd with rfl | hd
        · exact hP _ _ hc
        · exact h1 d hd

/-- A disk of which no number is beyond n. -/
structure Dk.le (d : Dk) (n : Nat) : Prop where
  now_len : d.now.length ≤ n
  now_size : d.now.size ≤ n
  sure_len : d.sure.length + d.loose.length ≤ n
  sure_size : d.sure.size + sumS d.loose ≤ n
  moves : ∀ c ∈ d.loose, c.kind = 2 → c.name ≠ c.to
  changes : d.changes ≤ n

theorem Dk.le.mono {d : Dk} {n m : Nat} (h : d.le n) (hm : n ≤ m) : d.le m :=
  ⟨Nat.le_trans h.now_len hm, Nat.le_trans h.now_size hm, Nat.le_trans h.sure_len hm, Nat.le_trans h.sure_size hm, h.moves, Nat.le_trans h.changes hm⟩
theorem Dk.le.crash {d : Dk} {n : Nat} (h : d.le n) (keep torn : Int) : (d.crash keep torn).le n := by
  unfold Dk.crash
  split
  · exact h
  · obtain ⟨h1, h2, h3⟩ := surv_facts keep (fun c => c.kind = 2 → c.name ≠ c.to) (fun c q hc => hc) d.loose torn 0 h.moves
    have h4 := Files.acts_size (surv keep torn 0 d.loose) d.sure h1
    have h5 := Files.acts_length (surv keep torn 0 d.loose) d.sure
    have h6 := h.sure_size
    have h7 := h.sure_len
    refine ⟨by simp only; omega, by simp only; omega, by simp only [List.length_nil]; omega, by simp only [sumS, List.map_nil, List.sum_nil]; omega, fun c hc => (by cases hc), h.changes⟩
theorem Dk.le.sync {d : Dk} {n : Nat} (h : d.le n) : d.sync.2.le n := by
  unfold Dk.sync
  split
  · exact h
  · exact ⟨h.now_len, h.now_size, by simpa using h.now_len, by simpa [sumS] using h.now_size, fun c hc => (by cases hc), h.changes⟩
theorem Dk.le.done {d : Dk} {n : Nat} (h : d.le n) (c : Chg) (hc : c.kind = 2 → c.name ≠ c.to) : Dk.le { d with changes := d.changes + 1, now := d.now.act c, loose := d.loose ++ [c] } (n + c.s.length + 1) := by
  have h1 := Files.act_length d.now c
  have h2 := Files.act_size d.now c hc
  have h3 := h.now_len
  have h4 := h.now_size
  have h5 := h.sure_len
  have h6 := h.sure_size
  have h7 := h.changes
  refine ⟨by simp only; omega, by simp only; omega, by simp only [List.length_append, List.length_cons, List.length_nil]; omega, by simp only [sumS_append, sumS_cons]; simp [sumS] at *; omega, fun x hx => ?_, by simp only; omega⟩
  rcases List.mem_append.1 hx with hx | hx
  · exact h.moves x hx
  · rw [List.mem_singleton.1 hx]; exact hc
theorem Dk.le.commit {d : Dk} {n : Nat} (h : d.le n) (c : Chg) (hc : c.kind = 2 → c.name ≠ c.to) : (d.commit c).2.le (n + c.s.length + 1) := by
  unfold Dk.commit
  split
  · split
    · exact ((show Dk.le { d with falls := none } n from ⟨h.now_len, h.now_size, h.sure_len, h.sure_size, h.moves, h.changes⟩).crash _ _).mono (by omega)
    · exact h.done c hc
  · exact h.done c hc

end Go.Proofs.Ytgofngilfdnakaa
