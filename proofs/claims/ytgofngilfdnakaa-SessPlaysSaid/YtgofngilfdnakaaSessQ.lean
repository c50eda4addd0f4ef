/-
  This text proves how the two sides of the law SessPlays (a table and the law's model, in memory) go on; no Go function is spoken of.
-/
import Derived.Test.YtgofngilfdnakaaSessP
import Derived.Test.YtgofngilfdnakaaSessB
namespace Go.Proofs.Ytgofngilfdnakaa
open Go Go.RowKit

/-! ### plain -/
def pl (E : Es) : List (Int × List Nat) := E.map fun e => (e.1, e.2.2)
theorem pl_length (E : Es) : (pl E).length = E.length := by simp [pl]
theorem pl_len {E F : Es} (h : pl E = pl F) : E.length = F.length := by rw [← pl_length, h, pl_length]
theorem pl_at {E F : Es} (h : pl E = pl F) (i : Nat) (hE : i < E.length) (hF : i < F.length) : E[i].1 = F[i].1 ∧ E[i].2.2 = F[i].2.2 := by
  have h1 : (pl E)[i]? = (pl F)[i]? := by rw [h]
  unfold pl at h1
  rw [List.getElem?_map, List.getElem?_map, List.getElem?_eq_getElem hE, List.getElem?_eq_getElem hF] at h1
  simp only [Option.map_some, Option.some.injEq, Prod.mk.injEq] at h1
  exact h1
theorem findAt_of (s : Int) : ∀ E : Es, findAt E s = ((pl E).takeWhile fun e => decide (e.1 < s)).length := by
  intro E
  unfold findAt pl
  rw [List.takeWhile_map, List.length_map]
  rfl
theorem findAt_pl {E F : Es} (h : pl E = pl F) (s : Int) : findAt E s = findAt F s := by rw [findAt_of, findAt_of, h]
theorem isAt_pl {E F : Es} (h : pl E = pl F) (s : Int) : isAt E s = isAt F s := by
  unfold isAt
  rw [findAt_pl h s]
  have hl := pl_len h
  by_cases hi : findAt F s < F.length
  · have := (pl_at h _ (by omega) hi).1
    rw [List.getElem?_eq_getElem hi, List.getElem?_eq_getElem (by omega)]
    show (E[findAt F s].1 == s) = (F[findAt F s].1 == s)
    rw [this]
  · rw [List.getElem?_eq_none (by omega), List.getElem?_eq_none (by omega)]
theorem total_of (E : Es) : total E = ((pl E).map fun e => e.2.length).sum := by
  unfold total pl
  rw [List.map_map]
  rfl
theorem total_pl {E F : Es} (h : pl E = pl F) : total E = total F := by rw [total_of, total_of, h]
theorem beginOf_pl {E F : Es} (h : pl E = pl F) (s : Int) (n : Nat) : beginOf E s n = beginOf F s n := by
  unfold beginOf
  rw [findAt_pl h s, total_pl h]
  have hl := pl_len h
  by_cases hi : findAt F s < F.length
  · have := pl_at h _ (by omega : findAt F s < E.length) hi
    rw [List.getElem?_eq_getElem hi, List.getElem?_eq_getElem (by omega)]
    simp only [this.1, this.2]
  · rw [List.getElem?_eq_none (by omega), List.getElem?_eq_none (by omega)]
theorem pl_set {E F : Es} (h : pl E = pl F) (i : Nat) (s : Int) (v u : Value) (L : List Nat) : pl (E.set i (s, v, L)) = pl (F.set i (s, u, L)) := by
  have e : ∀ (E : Es) (v : Value), pl (E.set i (s, v, L)) = (pl E).set i (s, L) := fun E v => by unfold pl; rw [List.map_set]
  rw [e, e, h]
theorem pl_erase {E F : Es} (h : pl E = pl F) (i : Nat) : pl (E.eraseIdx i) = pl (F.eraseIdx i) := by
  have e : ∀ (E : Es), pl (E.eraseIdx i) = (pl E).eraseIdx i := fun E => by unfold pl; rw [List.eraseIdx_eq_take_drop_succ, List.eraseIdx_eq_take_drop_succ, List.map_append, List.map_take, List.map_drop]
  rw [e, e, h]
def insAt (E : Es) (i : Nat) (x : Int × Value × List Nat) : Es := E.take i ++ x :: E.drop i
theorem pl_ins {E F : Es} (h : pl E = pl F) (i : Nat) (s : Int) (v u : Value) (L : List Nat) : pl (insAt E i (s, v, L)) = pl (insAt F i (s, u, L)) := by
  have e : ∀ (E : Es) (v : Value), pl (insAt E i (s, v, L)) = (pl E).take i ++ (s, L) :: (pl E).drop i := fun E v => by
    unfold pl insAt
    rw [List.map_append, List.map_cons, List.map_take, List.map_drop]
  rw [e, e, h]

theorem sorted_keys {E : Es} (h : Rising E) {ss : List Int} (hp : ss.Perm (E.map (·.1))) : ss.mergeSort (fun x y => decide (x ≤ y)) = E.map (·.1) := by
  have h0 : (E.map (·.1)).Pairwise (fun x y => x < y) := List.pairwise_map.2 h
  have h1 : (ss.mergeSort (fun x y => decide (x ≤ y))).Perm (E.map (·.1)) := (List.mergeSort_perm ss _).trans hp
  have h2 : (ss.mergeSort (fun x y : Int => decide (x ≤ y))).Pairwise (fun x y => x ≤ y) := by
    have := List.pairwise_mergeSort (le := fun x y : Int => decide (x ≤ y)) (by intro a b c; simp; omega) (by intro a b; simp; omega) ss
    exact this.imp (by intro a b; simp)
  have h3 : (E.map (·.1)).Pairwise (fun x y => x ≤ y) := h0.imp (by intro a b; omega)
  exact List.Perm.eq_of_pairwise (le := fun x y : Int => x ≤ y) (by intro a b _ _ h1 h2; omega) h2 h3 h1

theorem split_is {s : Int} : ∀ {E : Es}, isAt E s = true → ∃ A e C, E = A ++ e :: C ∧ A.length = findAt E s ∧ e.1 = s
  | [], h => by simp [isAt, findAt] at h
  | e :: E, hi => by
    by_cases h1 : e.1 < s
    · have hf : findAt (e :: E) s = findAt E s + 1 := by
        unfold findAt
        rw [List.takeWhile_cons, if_pos (by simpa using h1)]
        rfl
      have hi2 : isAt E s = true := by
        unfold isAt at hi ⊢
        rwa [hf, List.getElem?_cons_succ] at hi
      obtain ⟨A, x, C, rfl, hl, hx⟩ := split_is hi2
      exact ⟨e :: A, x, C, rfl, by rw [hf, List.length_cons, hl], hx⟩
    · have hf : findAt (e :: E) s = 0 := by
        unfold findAt
        rw [List.takeWhile_cons, if_neg (by simpa using h1)]
        rfl
      refine ⟨[], e, E, rfl, by rw [hf]; rfl, ?_⟩
      unfold isAt at hi
      rw [hf] at hi
      simpa using hi
theorem split_no {s : Int} : ∀ {E : Es}, Rising E → isAt E s = false → ∃ A C, E = A ++ C ∧ A.length = findAt E s ∧ (∀ a ∈ A, a.1 < s) ∧ ∀ c ∈ C, s < c.1
  | [], _, _ => ⟨[], [], rfl, rfl, (fun _ h => by cases h), fun _ h => by cases h⟩
  | e :: E, hr, hi => by
    have hr2 := List.pairwise_cons.1 hr
    by_cases h1 : e.1 < s
    · have hf : findAt (e :: E) s = findAt E s + 1 := by
        unfold findAt
        rw [List.takeWhile_cons, if_pos (by simpa using h1)]
        rfl
      have hi2 : isAt E s = false := by
        unfold isAt at hi ⊢
        rwa [hf, List.getElem?_cons_succ] at hi
      obtain ⟨A, C, rfl, hl, ha, hc⟩ := split_no hr2.2 hi2
      exact ⟨e :: A, C, rfl, by rw [hf, List.length_cons, hl], fun a h => by
        rcases List.mem_cons.1 h with rfl | h
        · exact h1
        · exact ha a h, hc⟩
    · have hf : findAt (e :: E) s = 0 := by
        unfold findAt
        rw [List.takeWhile_cons, if_neg (by simpa using h1)]
        rfl
      have h2 : e.1 ≠ s := by
        unfold isAt at hi
        rw [hf] at hi
        simpa using hi
      refine ⟨[], e :: E, rfl, by rw [hf]; rfl, (fun a h => by cases h), fun c h => ?_⟩
      rcases List.mem_cons.1 h with rfl | h
      · omega
      · have := hr2.1 c h
        omega
theorem total_app (A C : Es) : total (A ++ C) = total A + total C := by unfold total; rw [List.map_append, List.sum_append]
theorem total_cons (e : Int × Value × List Nat) (C : Es) : total (e :: C) = e.2.2.length + total C := by unfold total; rw [List.map_cons, List.sum_cons]
theorem set_split (A C : Es) (e x : Int × Value × List Nat) : (A ++ e :: C).set A.length x = A ++ x :: C := by
  rw [List.set_append_right _ _ (Nat.le_refl _), Nat.sub_self, List.set_cons_zero]
theorem erase_split (A C : Es) (e : Int × Value × List Nat) : (A ++ e :: C).eraseIdx A.length = A ++ C := by
  rw [List.eraseIdx_append_of_length_le (Nat.le_refl _), Nat.sub_self, List.eraseIdx_cons_zero]
theorem ins_split (A C : Es) (x : Int × Value × List Nat) : insAt (A ++ C) A.length x = A ++ x :: C := by
  unfold insAt
  rw [List.take_left, List.drop_left]

/-! ### in memory -/
def MB (vm : Value) (E : Es) (q : Nat) : Prop := vm.ownBlock = some q ∨ ∃ f ∈ E, f.2.1.ownBlock = some q
def TB (t b : Nat) (E : Es) (q : Nat) : Prop := q = t ∨ q = b ∨ ∃ e ∈ E, e.2.1.ownBlock = some q
def Apart (E : Es) : Prop := E.Pairwise fun e f => ∀ q, e.2.1.ownBlock = some q → f.2.1.ownBlock ≠ some q
structure TS (B : Nat) (w : World) (t b k : Nat) (E : Es) : Prop where
  tab : TabAt w t b k (tabD (vsOf E)) (total E)
  rise : Rising E
  keys : ∀ e ∈ E, 0 ≤ e.1 ∧ e.1 < 64
  lens : ∀ e ∈ E, e.2.2.length ≤ 4
  tot : total E ≤ 32
  nums : ∀ e ∈ E, Nums w B e.2.1 e.2.2
  away : ∀ e ∈ E, e.2.1.ownBlock ≠ some t ∧ e.2.1.ownBlock ≠ some b
  apart : Apart E
  low : B ≤ t ∧ B ≤ b
structure MS (B : Nat) (w : World) (vm : Value) (E : Es) : Prop where
  ops : OpsAt w B vm E
  nums : ∀ e ∈ E, Nums w B e.2.1 e.2.2
/-- A table and a model beside it, in a world that differs from an earlier one only by new blocks. -/
structure PS (w0 w : World) (t b k : Nat) (vm : Value) (Em Et : Es) : Prop where
  mod : Mod NoB w0 w
  ts : TS w0.heap.size w t b k Et
  ms : MS w0.heap.size w vm Em
  apart : ∀ q, TB t b Et q → ¬ MB vm Em q

theorem TabAt.mod {G : Nat → Prop} {w w' : World} {t b k a : Nat} {D : DataW Value} (h : TabAt w t b k D a) (hm : Mod G w w') (h1 : ¬ G t) (h2 : ¬ G b) : TabAt w' t b k D a :=
  ⟨(hm.block t (lt_heap h.1) h1).trans h.1, h.2.mod hm h2⟩
theorem TS.mod' {G : Nat → Prop} {B : Nat} {w w' : World} {t b k : Nat} {E : Es} (h : TS B w t b k E) (hm : Mod G w w') (hG : ∀ q, TB t b E q → ¬ G q) : TS B w' t b k E :=
  ⟨h.tab.mod hm (hG _ (.inl rfl)) (hG _ (.inr (.inl rfl))), h.rise, h.keys, h.lens, h.tot, fun e he => ownsRow_mod (h.nums e he) hm (fun q hq => hG q (.inr (.inr ⟨e, he, hq⟩))), h.away, h.apart, h.low⟩
theorem MS.mod' {G : Nat → Prop} {B : Nat} {w w' : World} {vm : Value} {E : Es} (h : MS B w vm E) (hm : Mod G w w') (hG : ∀ q, MB vm E q → ¬ G q) : MS B w' vm E :=
  ⟨ownsRow_mod h.ops hm (fun q hq => hG q (.inl hq)), fun e he => ownsRow_mod (h.nums e he) hm (fun q hq => hG q (.inr ⟨e, he, hq⟩))⟩
theorem TS.lt {B : Nat} {w : World} {t b k : Nat} {E : Es} (h : TS B w t b k E) {q : Nat} (hq : TB t b E q) : B ≤ q ∧ q < w.heap.size := by
  rcases hq with rfl | rfl | ⟨e, he, hq⟩
  · exact ⟨h.low.1, lt_heap h.tab.1⟩
  · exact ⟨h.low.2, World.ownsMap.lt h.tab.2⟩
  · exact (h.nums e he).lt q hq
theorem MS.lt {B : Nat} {w : World} {vm : Value} {E : Es} (h : MS B w vm E) {q : Nat} (hq : MB vm E q) : B ≤ q ∧ q < w.heap.size := by
  rcases hq with hq | ⟨e, he, hq⟩
  · exact h.ops.lt q hq
  · exact (h.nums e he).lt q hq
theorem TS.length {B : Nat} {w : World} {t b k : Nat} {E : Es} (h : TS B w t b k E) : E.length ≤ 64 := by
  have key : ∀ (E : Es) (m : Nat), Rising E → (∀ e ∈ E, (m : Int) ≤ e.1 ∧ e.1 < 64) → E.length + m ≤ 64 ∨ E = [] := by
    intro E
    induction E with
    | nil => intro m _ _; exact .inr rfl
    | cons e E ih =>
      intro m hr hk
      have hr2 := List.pairwise_cons.1 hr
      have h0 := hk e List.mem_cons_self
      left
      rcases ih (m + 1) hr2.2 (fun f hf => by have h1 := hr2.1 f hf; have h2 := hk f (List.mem_cons_of_mem _ hf); omega) with h | h
      · rw [List.length_cons]; omega
      · rw [h]; simp only [List.length_cons, List.length_nil]; omega
  rcases key E 0 h.rise (fun e he => by have := h.keys e he; omega) with h1 | h1
  · omega
  · rw [h1]; simp
theorem PS.quiet {w0 w w' : World} {t b k : Nat} {vm : Value} {Em Et : Es} (h : PS w0 w t b k vm Em Et) (hm : Mod NoB w w') : PS w0 w' t b k vm Em Et :=
  ⟨h.mod.trans hm (fun _ _ e => e), h.ts.mod' hm (fun _ _ => id), h.ms.mod' hm (fun _ _ => id), h.apart⟩
/-- The table goes on. -/
theorem PS.table {w0 w w' : World} {t b k k' : Nat} {vm : Value} {Em Et Et' : Es} (h : PS w0 w t b k vm Em Et) (hm : Mod (TB t b Et) w w') (ht : TS w0.heap.size w' t b k' Et') (hn : ∀ q, TB t b Et' q → TB t b Et q ∨ w.heap.size ≤ q) : PS w0 w' t b k' vm Em Et' :=
  ⟨h.mod.trans hm (fun q hq e => by have := (h.ts.lt e).1; omega), ht, h.ms.mod' hm (fun q hq e => h.apart q e hq), fun q hq hb => by
    rcases hn q hq with h1 | h1
    · exact h.apart q h1 hb
    · have := (h.ms.lt hb).2; omega⟩
/-- The model goes on. -/
theorem PS.model {w0 w w' : World} {t b k : Nat} {vm vm' : Value} {Em Em' Et : Es} (h : PS w0 w t b k vm Em Et) (hm : Mod NoB w w') (hs : MS w0.heap.size w' vm' Em') (hn : ∀ q, MB vm' Em' q → MB vm Em q ∨ w.heap.size ≤ q) : PS w0 w' t b k vm' Em' Et :=
  ⟨h.mod.trans hm (fun _ _ e => e), h.ts.mod' hm (fun _ _ => id), hs, fun q hq hb => by
    rcases hn q hb with h1 | h1
    · exact h.apart q hq h1
    · have := (h.ts.lt hq).2; omega⟩

theorem none_own {q : Nat} : (Value.slice none 0 0).ownBlock ≠ some q := by simp [Value.ownBlock]
theorem nums_none (w : World) (B : Nat) : Nums w B (.slice none 0 0) [] := ⟨rfl, .inl ⟨rfl, rfl⟩⟩
theorem app_mid {A C : Es} {x f : Int × Value × List Nat} (h : f ∈ A ++ x :: C) : f = x ∨ f ∈ A ∨ f ∈ C := by
  rcases List.mem_append.1 h with h | h
  · exact .inr (.inl h)
  · rcases List.mem_cons.1 h with h | h
    · exact .inl h
    · exact .inr (.inr h)
theorem rise_mid {A C : Es} {x : Int × Value × List Nat} (h : Rising (A ++ C)) (ha : ∀ a ∈ A, a.1 < x.1) (hc : ∀ c ∈ C, x.1 < c.1) : Rising (A ++ x :: C) := by
  obtain ⟨h1, h2, h3⟩ := List.pairwise_append.1 h
  refine List.pairwise_append.2 ⟨h1, List.pairwise_cons.2 ⟨hc, h2⟩, fun a haA f hf => ?_⟩
  rcases List.mem_cons.1 hf with rfl | hf
  · exact ha a haA
  · exact h3 a haA f hf
theorem rise_out {A C : Es} {x : Int × Value × List Nat} (h : Rising (A ++ x :: C)) : Rising (A ++ C) ∧ (∀ a ∈ A, a.1 < x.1) ∧ ∀ c ∈ C, x.1 < c.1 := by
  obtain ⟨h1, h2, h3⟩ := List.pairwise_append.1 h
  have h4 := List.pairwise_cons.1 h2
  exact ⟨List.pairwise_append.2 ⟨h1, h4.2, fun a ha c hc => h3 a ha c (List.mem_cons_of_mem _ hc)⟩, fun a ha => h3 a ha x List.mem_cons_self, h4.1⟩
theorem apart_mid {A C : Es} {x : Int × Value × List Nat} (h : Apart (A ++ C)) (hx : ∀ q, x.2.1.ownBlock = some q → ∀ f, f ∈ A ∨ f ∈ C → f.2.1.ownBlock ≠ some q) : Apart (A ++ x :: C) := by
  obtain ⟨h1, h2, h3⟩ := List.pairwise_append.1 h
  refine List.pairwise_append.2 ⟨h1, List.pairwise_cons.2 ⟨fun c hc q hq => hx q hq c (.inr hc), h2⟩, fun a haA f hf => ?_⟩
  rcases List.mem_cons.1 hf with rfl | hf
  · exact fun q hq hq2 => hx q hq2 a (.inl haA) hq
  · exact h3 a haA f hf
theorem apart_out {A C : Es} {x : Int × Value × List Nat} (h : Apart (A ++ x :: C)) : Apart (A ++ C) ∧ ∀ q, x.2.1.ownBlock = some q → ∀ f, f ∈ A ∨ f ∈ C → f.2.1.ownBlock ≠ some q := by
  obtain ⟨h1, h2, h3⟩ := List.pairwise_append.1 h
  have h4 := List.pairwise_cons.1 h2
  refine ⟨List.pairwise_append.2 ⟨h1, h4.2, fun a ha c hc => h3 a ha c (List.mem_cons_of_mem _ hc)⟩, fun q hq f hf => ?_⟩
  rcases hf with hf | hf
  · exact fun hq2 => h3 f hf x List.mem_cons_self q hq2 hq
  · exact h4.1 f hf q hq

/-- A session is laid anew in its place. -/
theorem TS.put {B : Nat} {w w' : World} {t b k k' a' : Nat} {A C : Es} {e : Int × Value × List Nat} {v' : Value} {L' : List Nat} (h : TS B w t b k (A ++ e :: C)) (hm : Mod (fun q => q = t ∨ q = b ∨ e.2.1.ownBlock = some q) w w')
    (ht : TabAt w' t b k' (tabD (vsOf (A ++ (e.1, v', L') :: C))) a') (ha : a' + e.2.2.length = total (A ++ e :: C) + L'.length) (hv : Nums w' B v' L') (hl : L'.length ≤ 4) (hl2 : a' ≤ 32)
    (hne : v'.ownBlock ≠ some t ∧ v'.ownBlock ≠ some b) (hk : v'.ownBlock = e.2.1.ownBlock ∨ ∀ q, v'.ownBlock = some q → w.heap.size ≤ q) :
    TS B w' t b k' (A ++ (e.1, v', L') :: C) ∧ ∀ q, TB t b (A ++ (e.1, v', L') :: C) q → TB t b (A ++ e :: C) q ∨ w.heap.size ≤ q := by
  have htot : total (A ++ (e.1, v', L') :: C) = a' := by
    rw [total_app, total_cons] at ha ⊢
    show total A + (L'.length + total C) = a'
    omega
  obtain ⟨hr, hra, hrc⟩ := rise_out h.rise
  obtain ⟨hp, hpx⟩ := apart_out h.apart
  have mem : ∀ f, f ∈ A ∨ f ∈ C → f ∈ A ++ e :: C := fun f hf => by
    rcases hf with hf | hf
    · exact List.mem_append_left _ hf
    · exact List.mem_append_right _ (List.mem_cons_of_mem _ hf)
  refine ⟨⟨by rw [htot]; exact ht, rise_mid hr hra hrc, fun f hf => ?_, fun f hf => ?_, by rw [htot]; exact hl2, fun f hf => ?_, fun f hf => ?_, apart_mid hp (fun q hq f hf => ?_), h.low⟩, fun q hq => ?_⟩
  · rcases app_mid hf with rfl | hf
    · exact h.keys e (List.mem_append_right _ List.mem_cons_self)
    · exact h.keys f (mem f hf)
  · rcases app_mid hf with rfl | hf
    · exact hl
    · exact h.lens f (mem f hf)
  · rcases app_mid hf with rfl | hf
    · exact hv
    · refine ownsRow_mod (h.nums f (mem f hf)) hm (fun q hq hq2 => ?_)
      rcases hq2 with rfl | rfl | hq2
      · exact (h.away f (mem f hf)).1 hq
      · exact (h.away f (mem f hf)).2 hq
      · exact hpx q hq2 f hf hq
  · rcases app_mid hf with rfl | hf
    · exact hne
    · exact h.away f (mem f hf)
  · rcases hk with hk | hk
    · exact hpx q (by rw [← hk]; exact hq) f hf
    · intro h2
      have h3 := hk q hq
      have h4 := ((h.nums f (mem f hf)).lt q h2).2
      omega
  · rcases hq with hq | hq | ⟨f, hf, hq⟩
    · exact .inl (.inl hq)
    · exact .inl (.inr (.inl hq))
    · rcases app_mid hf with rfl | hf
      · rcases hk with hk | hk
        · exact .inl (.inr (.inr ⟨e, List.mem_append_right _ List.mem_cons_self, by rw [← hk]; exact hq⟩))
        · exact .inr (hk q hq)
      · exact .inl (.inr (.inr ⟨f, mem f hf, hq⟩))
/-- A session comes. -/
theorem TS.ins {B : Nat} {w w' : World} {t b k k' : Nat} {A C : Es} {s : Int} (h : TS B w t b k (A ++ C)) (hm : Mod (fun q => q = b) w w') (hs : 0 ≤ s ∧ s < 64) (ha : ∀ a ∈ A, a.1 < s) (hc : ∀ c ∈ C, s < c.1)
    (ht : TabAt w' t b k' (tabD (vsOf (A ++ (s, .slice none 0 0, []) :: C))) (total (A ++ C))) :
    TS B w' t b k' (A ++ (s, .slice none 0 0, []) :: C) ∧ ∀ q, TB t b (A ++ (s, .slice none 0 0, []) :: C) q → TB t b (A ++ C) q ∨ w.heap.size ≤ q := by
  have htot : total (A ++ (s, .slice none 0 0, []) :: C) = total (A ++ C) := by
    rw [total_app, total_cons, total_app]
    simp
  have mem : ∀ f, f ∈ A ∨ f ∈ C → f ∈ A ++ C := fun f hf => List.mem_append.2 hf
  refine ⟨⟨by rw [htot]; exact ht, rise_mid h.rise ha hc, fun f hf => ?_, fun f hf => ?_, by rw [htot]; exact h.tot, fun f hf => ?_, fun f hf => ?_, apart_mid h.apart (fun q hq f hf => absurd hq none_own), h.low⟩, fun q hq => ?_⟩
  · rcases app_mid hf with rfl | hf
    · exact hs
    · exact h.keys f (mem f hf)
  · rcases app_mid hf with rfl | hf
    · exact Nat.zero_le _
    · exact h.lens f (mem f hf)
  · rcases app_mid hf with rfl | hf
    · exact nums_none _ _
    · refine ownsRow_mod (h.nums f (mem f hf)) hm (fun q hq hq2 => ?_)
      have hq3 : q = b := hq2
      rw [hq3] at hq
      exact (h.away f (mem f hf)).2 hq
  · rcases app_mid hf with rfl | hf
    · exact ⟨none_own, none_own⟩
    · exact h.away f (mem f hf)
  · rcases hq with hq | hq | ⟨f, hf, hq⟩
    · exact .inl (.inl hq)
    · exact .inl (.inr (.inl hq))
    · rcases app_mid hf with rfl | hf
      · exact absurd hq none_own
      · exact .inl (.inr (.inr ⟨f, mem f hf, hq⟩))
/-- A session goes. -/
theorem TS.del {B : Nat} {w w' : World} {t b k k' a' : Nat} {A C : Es} {e : Int × Value × List Nat} (h : TS B w t b k (A ++ e :: C)) (hm : Mod (fun q => q = t ∨ q = b) w w')
    (ht : TabAt w' t b k' (tabD (vsOf (A ++ C))) a') (ha : a' + e.2.2.length = total (A ++ e :: C)) :
    TS B w' t b k' (A ++ C) ∧ (∀ q, TB t b (A ++ C) q → TB t b (A ++ e :: C) q ∨ w.heap.size ≤ q) ∧ Nums w' B e.2.1 e.2.2 := by
  have htot : total (A ++ C) = a' := by
    rw [total_app, total_cons] at ha
    rw [total_app]
    omega
  obtain ⟨hr, hra, hrc⟩ := rise_out h.rise
  obtain ⟨hp, hpx⟩ := apart_out h.apart
  have mem : ∀ f, f ∈ A ++ C → f ∈ A ++ e :: C := fun f hf => by
    rcases List.mem_append.1 hf with hf | hf
    · exact List.mem_append_left _ hf
    · exact List.mem_append_right _ (List.mem_cons_of_mem _ hf)
  have keep : ∀ f, f ∈ A ++ e :: C → Nums w' B f.2.1 f.2.2 := fun f hf => ownsRow_mod (h.nums f hf) hm (fun q hq hq2 => by
    rcases hq2 with rfl | rfl
    · exact (h.away f hf).1 hq
    · exact (h.away f hf).2 hq)
  have h32 := h.tot
  refine ⟨⟨by rw [htot]; exact ht, hr, fun f hf => h.keys f (mem f hf), fun f hf => h.lens f (mem f hf), by rw [htot]; omega, fun f hf => keep f (mem f hf), fun f hf => h.away f (mem f hf), hp, h.low⟩, fun q hq => ?_, keep e (List.mem_append_right _ List.mem_cons_self)⟩
  rcases hq with hq | hq | ⟨f, hf, hq⟩
  · exact .inl (.inl hq)
  · exact .inl (.inr (.inl hq))
  · exact .inl (.inr (.inr ⟨f, mem f hf, hq⟩))

end Go.Proofs.Ytgofngilfdnakaa
