/-
  This text proves what Open, Begin, End and Close of a session's table do to a table that has the sessions of a rising list: under bounds on numbers.
-/
import Derived.Test.YtgofngilfdnakaaSessQ
import Derived.Test.YtgofngilfdnakaaSess7
namespace Go.Proofs.Ytgofngilfdnakaa
open Go Go.RowKit

/-- What a method of the table does to memory. -/
structure Step (w w' : World) (t b : Nat) (E E' : Es) : Prop where
  mod : Mod (TB t b E) w w'
  new : ∀ q, TB t b E' q → TB t b E q ∨ w.heap.size ≤ q
theorem Step.refl (w : World) (t b : Nat) (E : Es) : Step w w t b E E := ⟨Mod.refl _ _, fun _ h => .inl h⟩
theorem PS.step {w0 w w' : World} {t b k k' : Nat} {vm : Value} {Em Et Et' : Es} (h : PS w0 w t b k vm Em Et) (hs : Step w w' t b Et Et') (ht : TS w0.heap.size w' t b k' Et') : PS w0 w' t b k' vm Em Et' := h.table hs.mod ht hs.new
/-- A block beside the table. -/
structure KA (w : World) (t b : Nat) (E : Es) (A : Nat) (cs : Array Value) (T : TypeId) : Prop where
  cells : w.heap[A]? = some (.cells cs T (0, 0))
  far : ¬ TB t b E A
theorem KA.step {w w' : World} {t b A : Nat} {E E' : Es} {cs : Array Value} {T : TypeId} (h : KA w t b E A cs T) (hs : Step w w' t b E E') : KA w' t b E' A cs T :=
  ⟨(hs.mod.block A (lt_heap h.cells) h.far).trans h.cells, fun hq => by
    rcases hs.new A hq with h1 | h1
    · exact h.far h1
    · have := lt_heap h.cells; omega⟩
theorem KA.quiet {w w' : World} {t b A : Nat} {E : Es} {cs : Array Value} {T : TypeId} (h : KA w t b E A cs T) (hm : Mod NoB w w') : KA w' t b E A cs T :=
  ⟨(hm.block A (lt_heap h.cells) id).trans h.cells, h.far⟩

theorem get_no {E : Es} {s : Int} (hr : Rising E) (hi : isAt E s = false) : (vsOf E).get s = none := by
  rw [vs_get_is s E hr, hi]; rfl
theorem get_is {A C : Es} {e : Int × Value × List Nat} (hr : Rising (A ++ e :: C)) (hi : isAt (A ++ e :: C) e.1 = true) (hl : A.length = findAt (A ++ e :: C) e.1) : (vsOf (A ++ e :: C)).get e.1 = some e.2.1 := by
  rw [vs_get_is e.1 _ hr, hi, if_pos rfl, ← hl, List.getElem?_append_right (Nat.le_refl _), Nat.sub_self]
  rfl
theorem del_no {E : Es} {s : Int} (hr : Rising E) (hi : isAt E s = false) : (vsOf E).del s = vsOf E := by
  obtain ⟨A, C, rfl, _, ha, hc⟩ := split_no hr hi
  unfold Vs.del vsOf
  rw [List.filter_eq_self]
  intro x hx
  obtain ⟨y, hy, rfl⟩ := List.mem_map.1 hx
  rcases List.mem_append.1 hy with hy | hy
  · have := ha y hy
    simp; omega
  · have := hc y hy
    simp; omega
theorem keyB {s : Int} (h : 0 ≤ s ∧ s < 64) : -9223372036854775808 ≤ s ∧ s ≤ 9223372036854775807 := by omega

theorem TOpen (B t b k : Nat) (E : Es) (s : Int) (w : World) (h : TS B w t b k E) (hs0 : 0 ≤ s) (hs1 : s < 64) (hk : k ≤ 900) :
    Calls Try.prog 49 #[.pointer (some ⟨t, 0, none⟩), .int .i64 s] w fun e w' => e = .returned (.int .i64 0) ∧ ∃ E', TS B w' t b (k + 1) E' ∧ Step w w' t b E E' ∧
      ((isAt E s = true ∧ E' = E) ∨ (isAt E s = false ∧ E' = insAt E (findAt E s) (s, .slice none 0 0, []))) := by
  refine (SOpenG_calls t b k (total E) (vsOf E) s w h.tab hs0 hs1 (by omega)).mono fun e w' ⟨h1, hm, ht⟩ => ⟨h1, ?_⟩
  cases hi : isAt E s with
  | true =>
    obtain ⟨A, x, C, rfl, hl, rfl⟩ := split_is hi
    rw [get_is h.rise hi hl] at ht
    simp only [Option.isSome_some, if_true] at ht
    refine ⟨_, ⟨ht, h.rise, h.keys, h.lens, h.tot, fun f hf => ownsRow_mod (h.nums f hf) hm (fun q hq e => (h.away f hf).2 (by rw [hq, show q = b from e])), h.away, h.apart, h.low⟩, ⟨hm.mono (fun q _ e => .inr (.inl e)), fun q hq => .inl hq⟩, .inl ⟨rfl, rfl⟩⟩
  | false =>
    rw [get_no h.rise hi] at ht
    simp only [Option.isSome_none, Bool.false_eq_true, if_false] at ht
    unfold Vs.put at ht
    rw [del_no h.rise hi, vs_ins s _ [] E hi] at ht
    obtain ⟨A, C, rfl, hl, ha, hc⟩ := split_no h.rise hi
    rw [← hl, List.take_left, List.drop_left] at ht
    rw [← hl, ins_split]
    obtain ⟨h2, h3⟩ := h.ins hm ⟨hs0, hs1⟩ ha hc ht
    exact ⟨_, h2, ⟨hm.mono (fun q _ e => .inr (.inl e)), h3⟩, .inr ⟨rfl, rfl⟩⟩

theorem beginOf_is {A C : Es} {e : Int × Value × List Nat} (n : Nat) (hl : A.length = findAt (A ++ e :: C) e.1) : beginOf (A ++ e :: C) e.1 n = if n ∈ e.2.2 then 1 else if 4 ≤ e.2.2.length then 200 else if 32 ≤ total (A ++ e :: C) then 201 else 0 := by
  unfold beginOf
  rw [← hl, List.getElem?_append_right (Nat.le_refl _), Nat.sub_self]
  simp
theorem beginOf_no {E : Es} {s : Int} (n : Nat) (hi : isAt E s = false) : beginOf E s n = 2 := by
  unfold beginOf
  unfold isAt at hi
  cases hx : E[findAt E s]? with
  | none => rfl
  | some e =>
    rw [hx] at hi
    have : e.1 ≠ s := by simpa using hi
    simp only [if_neg this]

theorem TBegin (B t b k : Nat) (E : Es) (s : Int) (n : Nat) (w : World) (h : TS B w t b k E) (h0 : -9223372036854775808 ≤ s) (h1 : s ≤ 9223372036854775807) (hk : k ≤ 900) (hB : B ≤ w.heap.size) :
    Calls Try.prog 55 #[.pointer (some ⟨t, 0, none⟩), .int .i64 s, .int .u32 n] w fun e w' => e = .returned (.int .i64 (beginOf E s n)) ∧ ∃ E' k', k' ≤ k + 1 ∧ TS B w' t b k' E' ∧ Step w w' t b E E' ∧
      ((beginOf E s n ≠ 0 ∧ E' = E) ∨ (beginOf E s n = 0 ∧ isAt E s = true ∧ ∃ v', E' = E.set (findAt E s) (s, v', ((E[findAt E s]?).map (·.2.2)).getD [] ++ [n]))) := by
  cases hi : isAt E s with
  | false =>
    rw [beginOf_no n hi]
    refine (SBeginG_none t b k (total E) (vsOf E) s n w h.tab h0 h1 (get_no h.rise hi)).mono fun e w' ⟨h2, h3⟩ => ⟨h2, ?_⟩
    subst h3
    exact ⟨E, k, by omega, h, Step.refl _ _ _ _, .inl ⟨by decide, rfl⟩⟩
  | true =>
    obtain ⟨A, x, C, rfl, hl, rfl⟩ := split_is hi
    have hg := get_is h.rise hi hl
    have hmem : x ∈ A ++ x :: C := List.mem_append_right _ List.mem_cons_self
    have hnum := h.nums x hmem
    have hlen := h.lens x hmem
    have haw := h.away x hmem
    rw [beginOf_is n hl]
    by_cases hm : n ∈ x.2.2
    · rw [if_pos hm]
      refine (SBeginG_dup t b k (total _) B (vsOf _) x.1 x.2.1 x.2.2 n w h.tab h0 h1 hg hnum hm (by omega)).mono fun e w' ⟨h2, h3⟩ => ⟨h2, ?_⟩
      subst h3
      exact ⟨_, k, by omega, h, Step.refl _ _ _ _, .inl ⟨by decide, rfl⟩⟩
    · rw [if_neg hm]
      by_cases hq : 4 ≤ x.2.2.length ∨ 32 ≤ total (A ++ x :: C)
      · have e0 : (if 4 ≤ x.2.2.length then (200 : Int) else if 32 ≤ total (A ++ x :: C) then 201 else 0) = if 4 ≤ x.2.2.length then 200 else 201 := by
          by_cases h4 : 4 ≤ x.2.2.length
          · rw [if_pos h4, if_pos h4]
          · rw [if_neg h4, if_neg h4, if_pos (by omega)]
        rw [e0]
        refine (SBeginG_full t b k (total _) B (vsOf _) x.1 x.2.1 x.2.2 n w h.tab h0 h1 hg hnum hm (by omega) hq).mono fun e w' ⟨h2, h3⟩ => ⟨h2, ?_⟩
        subst h3
        refine ⟨_, k, by omega, h, Step.refl _ _ _ _, .inl ⟨?_, rfl⟩⟩
        split <;> decide
      · have h4 : ¬ 4 ≤ x.2.2.length := fun h => hq (.inl h)
        have h32 : ¬ 32 ≤ total (A ++ x :: C) := fun h => hq (.inr h)
        rw [if_neg h4, if_neg h32]
        refine (SBeginG_ok t b k (total _) B (vsOf _) x.1 x.2.1 x.2.2 n w h.tab h0 h1 hg hnum hm (by omega) (by omega) hk hB haw).mono fun e w' ⟨h2, hm2, v', ht, hn, hn1, hn2, hn3⟩ => ⟨h2, ?_⟩
        rw [vs_put_is x.1 v' (x.2.2 ++ [n]) _ h.rise hi, ← hl, set_split] at ht
        obtain ⟨h5, h6⟩ := h.put hm2 ht (by simp only [List.length_append, List.length_cons, List.length_nil]; omega) hn (by simp only [List.length_append, List.length_cons, List.length_nil]; omega) (by omega) ⟨hn1, hn2⟩ hn3
        refine ⟨_, k + 1, by omega, h5, ⟨hm2.mono (fun q _ e => ?_), h6⟩, .inr ⟨rfl, rfl, v', ?_⟩⟩
        · rcases e with e | e | e
          · exact .inl e
          · exact .inr (.inl e)
          · exact .inr (.inr ⟨x, hmem, e⟩)
        · rw [← hl, List.getElem?_append_right (Nat.le_refl _), Nat.sub_self, set_split]
          rfl

theorem TEnd (B t b k : Nat) (E : Es) (s : Int) (n : Nat) (w : World) (h : TS B w t b k E) (h0 : -9223372036854775808 ≤ s) (h1 : s ≤ 9223372036854775807) (hk : k ≤ 900) :
    Calls Try.prog 51 #[.pointer (some ⟨t, 0, none⟩), .int .i64 s, .int .u32 n] w fun e w' => ∃ r : Bool, e = .returned (.bool r) ∧ ∃ E' k', k' ≤ k + 1 ∧ TS B w' t b k' E' ∧ Step w w' t b E E' ∧
      ((r = false ∧ E' = E ∧ (isAt E s = true → n ∉ ((E[findAt E s]?).map (·.2.2)).getD [])) ∨
       (r = true ∧ isAt E s = true ∧ ∃ v' i, (((E[findAt E s]?).map (·.2.2)).getD [])[i]? = some n ∧ (∀ j, j < i → (((E[findAt E s]?).map (·.2.2)).getD [])[j]?.getD 0 ≠ n) ∧ E' = E.set (findAt E s) (s, v', (((E[findAt E s]?).map (·.2.2)).getD []).eraseIdx i))) := by
  cases hi : isAt E s with
  | false =>
    refine (SEndG_none t b k (total E) (vsOf E) s n w h.tab h0 h1 (get_no h.rise hi)).mono fun e w' ⟨h2, h3⟩ => ⟨false, h2, ?_⟩
    subst h3
    exact ⟨E, k, by omega, h, Step.refl _ _ _ _, .inl ⟨rfl, rfl, fun h => by cases h⟩⟩
  | true =>
    obtain ⟨A, x, C, rfl, hl, rfl⟩ := split_is hi
    have hg := get_is h.rise hi hl
    have hmem : x ∈ A ++ x :: C := List.mem_append_right _ List.mem_cons_self
    have hnum := h.nums x hmem
    have hlen := h.lens x hmem
    have haw := h.away x hmem
    have hL : (((A ++ x :: C)[findAt (A ++ x :: C) x.1]?).map (·.2.2)).getD [] = x.2.2 := by
      rw [← hl, List.getElem?_append_right (Nat.le_refl _), Nat.sub_self]
      rfl
    rw [hL]
    by_cases hm : n ∈ x.2.2
    · obtain ⟨i, hi1, hi2⟩ := first_of hm
      have hpos : 1 ≤ total (A ++ x :: C) := by
        have := (List.getElem?_eq_some_iff.1 hi1).1
        rw [total_app, total_cons]
        omega
      have h32 := h.tot
      refine (SEndG_ok t b k (total _) B (vsOf _) x.1 x.2.1 x.2.2 n i w h.tab h0 h1 hg hnum hi1 hi2 (by omega) hpos (by omega) hk haw).mono fun e w' ⟨h2, hm2, v', ht, hn, hn3⟩ => ⟨true, h2, ?_⟩
      have hil := (List.getElem?_eq_some_iff.1 hi1).1
      rw [vs_put_is x.1 v' (x.2.2.eraseIdx i) _ h.rise hi, ← hl, set_split] at ht
      obtain ⟨h5, h6⟩ := h.put hm2 ht (by rw [List.length_eraseIdx, if_pos hil]; omega) hn (by rw [List.length_eraseIdx, if_pos hil]; omega) (by omega) (by rw [hn3]; exact haw) (.inl hn3)
      refine ⟨_, k + 1, by omega, h5, ⟨hm2.mono (fun q _ e => ?_), h6⟩, .inr ⟨rfl, rfl, v', i, hi1, hi2, ?_⟩⟩
      · rcases e with e | e | e
        · exact .inl e
        · exact .inr (.inl e)
        · exact .inr (.inr ⟨x, hmem, e⟩)
      · rw [← hl, set_split]
    · refine (SEndG_not t b k (total _) B (vsOf _) x.1 x.2.1 x.2.2 n w h.tab h0 h1 hg hnum hm (by omega)).mono fun e w' ⟨h2, h3⟩ => ⟨false, h2, ?_⟩
      subst h3
      exact ⟨_, k, by omega, h, Step.refl _ _ _ _, .inl ⟨rfl, rfl, fun _ => hm⟩⟩

theorem TClose (B t b k : Nat) (E : Es) (s : Int) (w : World) (h : TS B w t b k E) (h0 : -9223372036854775808 ≤ s) (h1 : s ≤ 9223372036854775807) :
    Calls Try.prog 53 #[.pointer (some ⟨t, 0, none⟩), .int .i64 s] w fun e w' => ∃ v E' k', e = .returned v ∧ k' ≤ k ∧ TS B w' t b k' E' ∧ Step w w' t b E E' ∧
      Nums w' B v (if isAt E s then ((E[findAt E s]?).map (·.2.2)).getD [] else []) ∧ ((isAt E s = false ∧ E' = E) ∨ (isAt E s = true ∧ E' = E.eraseIdx (findAt E s))) := by
  cases hi : isAt E s with
  | false =>
    refine (SCloseG_none t b k (total E) (vsOf E) s w h.tab h0 h1 (get_no h.rise hi)).mono fun e w' ⟨h2, h3⟩ => ?_
    subst h3
    exact ⟨_, E, k, h2, by omega, h, Step.refl _ _ _ _, nums_none _ _, .inl ⟨rfl, rfl⟩⟩
  | true =>
    obtain ⟨A, x, C, rfl, hl, rfl⟩ := split_is hi
    have hg := get_is h.rise hi hl
    have hmem : x ∈ A ++ x :: C := List.mem_append_right _ List.mem_cons_self
    have hnum := h.nums x hmem
    have hlen := h.lens x hmem
    have hL : (((A ++ x :: C)[findAt (A ++ x :: C) x.1]?).map (·.2.2)).getD [] = x.2.2 := by
      rw [← hl, List.getElem?_append_right (Nat.le_refl _), Nat.sub_self]
      rfl
    rw [hL, if_pos rfl]
    obtain ⟨a, c, hv, _⟩ := hnum.shape
    have hle : x.2.2.length ≤ total (A ++ x :: C) := by rw [total_app, total_cons]; omega
    have h32 := h.tot
    rw [hv] at hg
    refine (SCloseG_some t b k (total _) (vsOf _) x.1 a x.2.2.length c w h.tab h0 h1 hg hle (by omega)).mono fun e w' ⟨h2, hm2, k', hk', ht⟩ => ?_
    rw [vs_del_is x.1 _ h.rise hi, ← hl, erase_split] at ht
    obtain ⟨h5, h6, h7⟩ := h.del hm2 ht (by omega)
    rw [hv] at h7
    refine ⟨_, _, k', h2, hk', h5, ⟨hm2.mono (fun q _ e => ?_), h6⟩, h7, .inr ⟨rfl, ?_⟩⟩
    · rcases e with e | e
      · exact .inl e
      · exact .inr (.inl e)
    · rw [← hl, erase_split]

end Go.Proofs.Ytgofngilfdnakaa
