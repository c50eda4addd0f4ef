/-
  This text is plain mathematics: sessions in a rising list, as the law SessPlays has them, against a table's map; no Go function is spoken of.
-/
import Derived.Test.YtgofngilfdnakaaSessL
namespace Go.Proofs.Ytgofngilfdnakaa
open Go

/-- The map of a table that has just these sessions. -/
def vsOf (E : Es) : Vs := E.map fun e => (e.1, e.2.1)
/-- Rising. -/
def Rising (E : Es) : Prop := E.Pairwise fun x y => x.1 < y.1
theorem vs_get_is (s : Int) : ∀ (E : Es), Rising E → (vsOf E).get s = (if isAt E s then (E[findAt E s]?).map (·.2.1) else none)
  | [], _ => by simp [vsOf, Vs.get, isAt, findAt]
  | e :: E, h => by
    have hr := List.pairwise_cons.1 h
    by_cases h1 : e.1 < s
    · have ih := vs_get_is s E hr.2
      have hf : findAt (e :: E) s = findAt E s + 1 := by
        unfold findAt
        rw [List.takeWhile_cons, if_pos (by simpa using h1)]
        rfl
      have hi : isAt (e :: E) s = isAt E s := by
        unfold isAt
        rw [hf, List.getElem?_cons_succ]
      have hg : (vsOf (e :: E)).get s = (vsOf E).get s := by
        unfold vsOf Vs.get
        rw [List.map_cons, List.find?_cons]
        have : (e.1 == s) = false := by simp; omega
        simp only [this]
      rw [hg, hi, hf, List.getElem?_cons_succ]
      exact ih
    · have hf : findAt (e :: E) s = 0 := by
        unfold findAt
        rw [List.takeWhile_cons, if_neg (by simpa using h1)]
        rfl
      have hi : isAt (e :: E) s = (e.1 == s) := by
        unfold isAt
        rw [hf]; rfl
      rw [hi, hf]
      by_cases h2 : e.1 = s
      · have h3 : (e.1 == s) = true := by simpa using h2
        rw [if_pos h3]
        unfold vsOf Vs.get
        rw [List.map_cons, List.find?_cons]
        simp only [h3]
        rfl
      · have h3 : (e.1 == s) = false := by simpa using h2
        rw [if_neg (by rw [h3]; decide)]
        unfold vsOf Vs.get
        rw [List.find?_eq_none.2]
        · rfl
        · intro x hx
          obtain ⟨y, hy, rfl⟩ := List.mem_map.1 hx
          rcases List.mem_cons.1 hy with rfl | hy
          · simpa using h2
          · have := hr.1 y hy
            simp
            omega

theorem vs_del_is (s : Int) : ∀ (E : Es), Rising E → isAt E s = true → (vsOf E).del s = vsOf (E.eraseIdx (findAt E s))
  | [], _, h => by simp [isAt, findAt] at h
  | e :: E, h, hi => by
    have hr := List.pairwise_cons.1 h
    by_cases h1 : e.1 < s
    · have hf : findAt (e :: E) s = findAt E s + 1 := by
        unfold findAt
        rw [List.takeWhile_cons, if_pos (by simpa using h1)]
        rfl
      have hi2 : isAt E s = true := by
        unfold isAt at hi ⊢
        rwa [hf, List.getElem?_cons_succ] at hi
      have ih := vs_del_is s E hr.2 hi2
      rw [hf, List.eraseIdx_cons_succ]
      unfold vsOf Vs.del at ih ⊢
      rw [List.map_cons, List.filter_cons, if_pos (by simp; omega), ih]
      rfl
    · have hf : findAt (e :: E) s = 0 := by
        unfold findAt
        rw [List.takeWhile_cons, if_neg (by simpa using h1)]
        rfl
      have h2 : e.1 = s := by
        unfold isAt at hi
        rw [hf] at hi
        simpa using hi
      rw [hf, List.eraseIdx_cons_zero]
      unfold vsOf Vs.del
      rw [List.map_cons, List.filter_cons, if_neg (by simp [h2])]
      rw [List.filter_eq_self.2]
      intro x hx
      obtain ⟨y, hy, rfl⟩ := List.mem_map.1 hx
      have := hr.1 y hy
      simp
      omega

theorem vs_ins (s : Int) (v : Value) (L : List Nat) : ∀ (E : Es), isAt E s = false → Vs.ins (s, v) (vsOf E) = vsOf (E.take (findAt E s) ++ (s, v, L) :: E.drop (findAt E s))
  | [], _ => rfl
  | e :: E, hi => by
    by_cases h1 : e.1 < s
    · have hf : findAt (e :: E) s = findAt E s + 1 := by
        unfold findAt
        rw [List.takeWhile_cons, if_pos (by simpa using h1)]
        rfl
      have hi2 : isAt E s = false := by
        unfold isAt at hi ⊢
        rwa [hf, List.getElem?_cons_succ] at hi
      have ih := vs_ins s v L E hi2
      rw [hf, List.take_succ_cons, List.drop_succ_cons]
      show Vs.ins (s, v) ((e.1, e.2.1) :: vsOf E) = (e.1, e.2.1) :: vsOf (E.take (findAt E s) ++ (s, v, L) :: E.drop (findAt E s))
      rw [← ih]
      have hx : ∀ (x y : Int × Value) (r : Vs), ¬ x.1 < y.1 → Vs.ins x (y :: r) = y :: Vs.ins x r := fun x y r hxy => if_neg hxy
      exact hx _ _ _ (by simp only; omega)
    · have hf : findAt (e :: E) s = 0 := by
        unfold findAt
        rw [List.takeWhile_cons, if_neg (by simpa using h1)]
        rfl
      have h2 : e.1 ≠ s := by
        unfold isAt at hi
        rw [hf] at hi
        simpa using hi
      rw [hf]
      show Vs.ins (s, v) ((e.1, e.2.1) :: vsOf E) = (s, v) :: (e.1, e.2.1) :: vsOf E
      unfold Vs.ins
      rw [if_pos (by simp only; omega)]

theorem vs_put_is (s : Int) (v : Value) (L : List Nat) : ∀ (E : Es), Rising E → isAt E s = true → (vsOf E).put s v = vsOf (E.set (findAt E s) (s, v, L))
  | [], _, h => by simp [isAt, findAt] at h
  | e :: E, h, hi => by
    have hr := List.pairwise_cons.1 h
    by_cases h1 : e.1 < s
    · have hf : findAt (e :: E) s = findAt E s + 1 := by
        unfold findAt
        rw [List.takeWhile_cons, if_pos (by simpa using h1)]
        rfl
      have hi2 : isAt E s = true := by
        unfold isAt at hi ⊢
        rwa [hf, List.getElem?_cons_succ] at hi
      have ih := vs_put_is s v L E hr.2 hi2
      rw [hf, List.set_cons_succ]
      show _ = (e.1, e.2.1) :: vsOf (E.set (findAt E s) (s, v, L))
      rw [← ih]
      have hd : (vsOf (e :: E)).del s = (e.1, e.2.1) :: (vsOf E).del s := by
        unfold vsOf Vs.del
        rw [List.map_cons, List.filter_cons, if_pos (by simp; omega)]
      have hx : ∀ (x y : Int × Value) (r : Vs), ¬ x.1 < y.1 → Vs.ins x (y :: r) = y :: Vs.ins x r := fun x y r hxy => if_neg hxy
      unfold Vs.put
      rw [hd]
      exact hx _ _ _ (by simp only; omega)
    · have hf : findAt (e :: E) s = 0 := by
        unfold findAt
        rw [List.takeWhile_cons, if_neg (by simpa using h1)]
        rfl
      have h2 : e.1 = s := by
        unfold isAt at hi
        rw [hf] at hi
        simpa using hi
      have hd := vs_del_is s (e :: E) h hi
      rw [hf, List.eraseIdx_cons_zero] at hd
      rw [hf, List.set_cons_zero]
      unfold Vs.put
      rw [hd]
      show _ = (s, v) :: vsOf E
      cases E with
      | nil => rfl
      | cons y r =>
        have hx : ∀ (x y : Int × Value) (r : Vs), x.1 < y.1 → Vs.ins x (y :: r) = x :: y :: r := fun x y r hxy => if_pos hxy
        have := hr.1 y List.mem_cons_self
        exact hx _ _ _ (by simp only; omega)

end Go.Proofs.Ytgofngilfdnakaa
