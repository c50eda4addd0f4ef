/-
  This text is plain mathematics: what becomes of a tree's page when a key is put below it or taken away; a log's pages; no condition, no Go.
-/
import Derived.Test.YtgofngilfdnakaaGreatPageP
namespace Go.Proofs.YtgofngilfdnakaaGreat
open Go

/-- What became of a page: one page, or two with a key between them. -/
structure SplitR (rd : Nat → Pg → Prop) (m d : Nat) (lo : Str) (hi : Option Str) (M : Files) (l r : Nat) (key : Str) (two : Bool) : Prop where
  one : two = false → Rep rd m d l lo hi M
  both : two = true → KidsRep (Rep rd 4 d) [key] [l, r] lo hi M ∧ keyOk key

/-- Where a page comes to lie. -/
def Lg.top' (g : Lg) : Nat := g.s.length + g.wait.length
theorem top_lay (g : Lg) (q : Pg) : (g.lay q).top' = g.top' + (encP q).length + 9 := by
  unfold Lg.top' Lg.lay
  simp only [List.length_append, frame_length, List.length_cons]
  omega
/-- A log that grew by pages. -/
def pagesB (L : List Pg) : Str := L.flatMap fun q => frame (100 :: encP q)
def Grew (g g' : Lg) : Prop := ∃ L : List Pg, (∀ q ∈ L, pgOk q) ∧ g' = { g with wait := g.wait ++ pagesB L }
theorem Grew.ex {g g' : Lg} (h : Grew g g') : ∃ x, g' = { g with wait := g.wait ++ x } := by
  obtain ⟨L, _, h⟩ := h
  exact ⟨_, h⟩
theorem Grew.refl (g : Lg) : Grew g g := ⟨[], fun _ h => (by cases h), by rw [pagesB, List.flatMap_nil, List.append_nil]⟩
theorem Grew.trans {a b c : Lg} (h : Grew a b) (k : Grew b c) : Grew a c := by
  obtain ⟨x, hx, rfl⟩ := h
  obtain ⟨y, hy, rfl⟩ := k
  exact ⟨x ++ y, fun q hq => (List.mem_append.1 hq).elim (hx q) (hy q), by simp [pagesB, List.flatMap_append, List.append_assoc]⟩
theorem Grew.lay {g : Lg} {q : Pg} (h : pgOk q) : Grew g (g.lay q) := ⟨[q], fun r hr => (by rw [List.mem_singleton.1 hr]; exact h), by simp [Lg.lay, pagesB]⟩
theorem Grew.rd {g g' : Lg} (h : Grew g g') : ∀ k q, rdG g k q → rdG g' k q := by
  obtain ⟨x, rfl⟩ := h.ex
  exact fun k q => rdG_grow x

/-- A page that is kept as one. -/
theorem keep_one {g : Lg} {d : Nat} {p : Pg} {lo : Str} {hi : Option Str} {M : Files} (h : RepP (rdG g) d p lo hi M) (h1 : 1 ≤ p.keys.length) (h8 : p.keys.length ≤ 8) (ht : g.top' ≤ 2000000000) : Rep (rdG (g.lay p)) p.keys.length d g.top' lo hi M :=
  ⟨by omega, p, lay_new (rep_ok h h1 h8), Nat.le_refl _, h8, repP_mono (Grew.lay (rep_ok h h1 h8)).rd h⟩
/-- A page that is cut in two. -/
theorem keep_two {g : Lg} {d : Nat} {p : Pg} {lo : Str} {hi : Option Str} {M : Files} {s : Str} (h : RepP (rdG g) d p lo hi M) (h9 : 9 ≤ p.keys.length) (h12 : p.keys.length ≤ 12) (hs : p.keys[p.keys.length / 2]? = some s) (ht : g.top' ≤ 1900000000) :
    pgOk (p.lower (p.keys.length / 2)) ∧ pgOk (p.upper (p.keys.length / 2)) ∧
      SplitR (rdG ((g.lay (p.lower (p.keys.length / 2))).lay (p.upper (p.keys.length / 2)))) 4 d lo hi M g.top' (g.lay (p.lower (p.keys.length / 2))).top' s true := by
  obtain ⟨l4, l8, u4, u8⟩ := cut_lengths h9 h12
  obtain ⟨M1, M2, rfl, r1, r2, hlo, hhi, hk⟩ := cut_rep h (by omega) hs
  generalize p.lower (p.keys.length / 2) = a at *
  generalize p.upper (p.keys.length / 2) = b at *
  have oa := rep_ok r1 (by omega) l8
  have ob := rep_ok r2 (by omega) u8
  have hea := encP_le oa
  have htl := top_lay g a
  refine ⟨oa, ob, (fun e => by cases e), fun _ => ⟨⟨M1, M2, rfl, hlo, hhi, ?_, ?_⟩, hk⟩⟩
  · exact ⟨by omega, a, (Grew.lay (g := g.lay a) ob).rd _ _ (lay_new oa), l4, l8, repP_mono ((Grew.lay (g := g) oa).trans (Grew.lay ob)).rd r1⟩
  · exact ⟨by omega, b, lay_new ob, u4, u8, repP_mono ((Grew.lay (g := g) oa).trans (Grew.lay ob)).rd r2⟩

theorem set_mid {α : Type} (l : List α) (i : Nat) (x : α) (h : i < l.length) : l.set i x = l.take i ++ ([x] ++ l.drop (i + 1)) := by
  rw [List.set_eq_take_append_cons_drop, if_pos h]
  rfl
theorem ins_mid {α : Type} (l : List α) (i : Nat) (x y : α) (h : i < l.length) : insL (l.set i x) (i + 1) y = l.take i ++ ([x, y] ++ l.drop (i + 1)) := by
  unfold insL
  rw [set_mid l i x h]
  have hl : (l.take i ++ [x]).length = i + 1 := by rw [List.length_append, List.length_take, List.length_singleton]; omega
  rw [← List.append_assoc, List.take_left' hl, List.drop_left' hl]
  simp
/-- A page behind what became of one of its kids. -/
def Pg.putKid (p : Pg) (i l r : Nat) (key : Str) (two : Bool) : Pg := if two then { p with keys := insL p.keys i key, kids := insL (p.kids.set i l) (i + 1) r } else { p with kids := p.kids.set i l }
theorem node_put {rd : Nat → Pg → Prop} {d : Nat} {p : Pg} {lo : Str} {hi : Option Str} {M : Files} {k : Str} (v : Str) (h : RepP rd (d + 1) p lo hi M) (h1 : above lo k) (h2 : below hi k) :
    ∃ (x : Nat) (lo' : Str) (hi' : Option Str) (M2 : Files), kKid p.keys k < p.kids.length ∧ p.kids[kKid p.keys k]? = some x ∧ Rep rd 4 d x lo' hi' M2 ∧ M2.length ≤ M.length ∧ above lo' k ∧ below hi' k ∧
      ∀ (rd' : Nat → Pg → Prop) l r key two, (∀ j q, rd j q → rd' j q) → SplitR rd' 4 d lo' hi' (M2.put k v) l r key two → RepP rd' (d + 1) (p.putKid (kKid p.keys k) l r key two) lo hi (M.put k v) := by
  have hle := kKid_le p.keys k
  have hlen : p.kids.length = p.keys.length + 1 := kr_length h.2.2.2
  obtain ⟨x, lo', hi', M1, M2, M3, e1, e2, e3, e4, e5, e6, e7, e8⟩ := node_kid h h1 h2
  have hlt : kKid p.keys k < p.kids.length := by omega
  refine ⟨x, lo', hi', M2, hlt, e1, e3, by rw [e2]; simp only [List.length_append]; omega, e4, e5, fun rd' l r key two hm hs => ?_⟩
  have hput : M.put k v = M1 ++ (M2.put k v ++ M3) := by rw [e2, put_mid e6 e7]
  rw [hput]
  cases two with
  | false =>
    have h3 := e8 rd' [] [l] (M2.put k v) hm (hs.one rfl) (fun s hs => by cases hs)
    rw [List.nil_append, List.take_append_drop, ← set_mid _ _ _ hlt] at h3
    exact h3
  | true =>
    obtain ⟨h4, h5⟩ := hs.both rfl
    have h3 := e8 rd' [key] [l, r] (M2.put k v) hm h4 (fun s hs => by rw [List.mem_singleton.1 hs]; exact h5)
    rw [← ins_mid _ _ _ _ hlt] at h3
    exact h3
theorem putKid_len (p : Pg) (i l r : Nat) (key : Str) (two : Bool) (hi : i ≤ p.keys.length) : p.keys.length ≤ (p.putKid i l r key two).keys.length ∧ (p.putKid i l r key two).keys.length ≤ p.keys.length + 1 := by
  unfold Pg.putKid insL
  split
  · simp only [List.length_append, List.length_cons, List.length_take, List.length_drop]; omega
  · exact ⟨Nat.le_refl _, Nat.le_succ _⟩

/-- A key is taken away below a kid that has keys enough behind it. -/
theorem node_del {rd : Nat → Pg → Prop} {d : Nat} {p : Pg} {lo : Str} {hi : Option Str} {M : Files} {k : Str} (h : RepP rd (d + 1) p lo hi M) (h1 : above lo k) (h2 : below hi k) :
    ∃ (x : Nat) (lo' : Str) (hi' : Option Str) (M2 : Files), kKid p.keys k < p.kids.length ∧ p.kids[kKid p.keys k]? = some x ∧ Rep rd 4 d x lo' hi' M2 ∧ above lo' k ∧ below hi' k ∧ M.get k = M2.get k ∧
      ∀ (rd' : Nat → Pg → Prop) l, (∀ j q, rd j q → rd' j q) → Rep rd' 4 d l lo' hi' (M2.del k) → RepP rd' (d + 1) { p with kids := p.kids.set (kKid p.keys k) l } lo hi (M.del k) := by
  have hle := kKid_le p.keys k
  have hlen : p.kids.length = p.keys.length + 1 := kr_length h.2.2.2
  obtain ⟨x, lo', hi', M1, M2, M3, e1, e2, e3, e4, e5, e6, e7, e8⟩ := node_kid h h1 h2
  have hlt : kKid p.keys k < p.kids.length := by omega
  refine ⟨x, lo', hi', M2, hlt, e1, e3, e4, e5, by rw [e2, get_mid e6 e7], fun rd' l hm hs => ?_⟩
  have hdel : M.del k = M1 ++ (M2.del k ++ M3) := by rw [e2, del_mid e6 e7]
  rw [hdel]
  have h3 := e8 rd' [] [l] (M2.del k) hm hs (fun s hs => by cases hs)
  rw [List.nil_append, List.take_append_drop, ← set_mid _ _ _ hlt] at h3
  exact h3

theorem set2_mid {α : Type} (l : List α) (i : Nat) (x y : α) (h : i + 1 < l.length) : (l.set i x).set (i + 1) y = l.take i ++ ([x, y] ++ l.drop (i + 2)) := by
  rw [set_mid (l.set i x) (i + 1) y (by rw [List.length_set]; exact h), set_mid l i x (by omega)]
  have hl : (l.take i ++ [x]).length = i + 1 := by rw [List.length_append, List.length_take, List.length_singleton]; omega
  have e : l.take i ++ ([x] ++ l.drop (i + 1)) = (l.take i ++ [x]) ++ l.drop (i + 1) := by rw [List.append_assoc]
  rw [e, List.take_left' hl]
  have e2 : ((l.take i ++ [x]) ++ l.drop (i + 1)).drop (i + 1 + 1) = l.drop (i + 2) := by
    rw [← List.drop_drop, List.drop_left' hl, List.drop_drop]
  rw [e2]
  simp
theorem erase_mid {α : Type} (l : List α) (i : Nat) (x : α) (h : i + 1 < l.length) : (l.set i x).eraseIdx (i + 1) = l.take i ++ ([x] ++ l.drop (i + 2)) := by
  rw [List.eraseIdx_eq_take_drop_succ, set_mid l i x (by omega)]
  have hl : (l.take i ++ [x]).length = i + 1 := by rw [List.length_append, List.length_take, List.length_singleton]; omega
  have e : l.take i ++ ([x] ++ l.drop (i + 1)) = (l.take i ++ [x]) ++ l.drop (i + 1) := by rw [List.append_assoc]
  rw [e, List.take_left' hl]
  have e2 : ((l.take i ++ [x]) ++ l.drop (i + 1)).drop (i + 1 + 1) = l.drop (i + 2) := by
    rw [← List.drop_drop, List.drop_left' hl, List.drop_drop]
  rw [e2, List.append_assoc]
theorem erase_keys {α : Type} (l : List α) (i : Nat) : l.eraseIdx i = l.take i ++ ([] ++ l.drop (i + 1)) := by
  rw [List.eraseIdx_eq_take_drop_succ, List.nil_append]
theorem set_keys {α : Type} (l : List α) (i : Nat) (x : α) (h : i < l.length) : l.set i x = l.take i ++ ([x] ++ l.drop (i + 1)) := set_mid l i x h
/-- A page behind two of its kids were joined, and perhaps cut anew. -/
def Pg.mendKid (p : Pg) (i l r : Nat) (key : Str) (two : Bool) : Pg :=
  if two then { p with keys := p.keys.set i key, kids := (p.kids.set i l).set (i + 1) r } else { p with keys := p.keys.eraseIdx i, kids := (p.kids.set i l).eraseIdx (i + 1) }
/-- The kid from which a key was taken is joined with the one beside it. -/
theorem node_mend {rd : Nat → Pg → Prop} {d : Nat} {p : Pg} {lo : Str} {hi : Option Str} {M : Files} {k : Str} (h : RepP rd (d + 1) p lo hi M) (h1 : above lo k) (h2 : below hi k) (hk : 1 ≤ p.keys.length) :
    ∃ (x y : Nat) (s lo' : Str) (hi' : Option Str) (Ma Mb : Files), kKid p.keys k - 1 < p.keys.length ∧ p.kids.length = p.keys.length + 1 ∧ p.kids[kKid p.keys k - 1]? = some x ∧ p.kids[kKid p.keys k - 1 + 1]? = some y ∧ p.keys[kKid p.keys k - 1]? = some s ∧
      Rep rd 4 d x lo' (some s) Ma ∧ Rep rd 4 d y s hi' Mb ∧
      (kKid p.keys k = 0 → above lo' k ∧ below (some s) k ∧ M.get k = Ma.get k ∧ ∀ (rd' : Nat → Pg → Prop) (o q : Pg) l r key two, (∀ j q, rd j q → rd' j q) → RepP rd' d o lo' (some s) (Ma.del k) → RepP rd' d q s hi' Mb →
        (RepP rd' d (o.join s q) lo' hi' (Ma.del k ++ Mb) → SplitR rd' 4 d lo' hi' (Ma.del k ++ Mb) l r key two) → RepP rd' (d + 1) (p.mendKid (kKid p.keys k - 1) l r key two) lo hi (M.del k)) ∧
      (0 < kKid p.keys k → above s k ∧ below hi' k ∧ M.get k = Mb.get k ∧ ∀ (rd' : Nat → Pg → Prop) (o q : Pg) l r key two, (∀ j q, rd j q → rd' j q) → RepP rd' d o s hi' (Mb.del k) → RepP rd' d q lo' (some s) Ma →
        (RepP rd' d (q.join s o) lo' hi' (Ma ++ Mb.del k) → SplitR rd' 4 d lo' hi' (Ma ++ Mb.del k) l r key two) → RepP rd' (d + 1) (p.mendKid (kKid p.keys k - 1) l r key two) lo hi (M.del k)) := by
  have hle := kKid_le p.keys k
  have hlen : p.kids.length = p.keys.length + 1 := kr_length h.2.2.2
  obtain ⟨x, y, s, lo', hi', M1, Ma, Mb, M3, e1, e2, e3, e4, e5, e6, e7, e8, e9, e10, e11, e12, e13, e14, e15, e16⟩ := node_pair (i := kKid p.keys k - 1) h h1 h2 hk rfl
  have hlt : kKid p.keys k - 1 < p.keys.length := by omega
  have fin : ∀ (rd' : Nat → Pg → Prop) l r key two (N : Files), (∀ j q, rd j q → rd' j q) → SplitR rd' 4 d lo' hi' N l r key two → RepP rd' (d + 1) (p.mendKid (kKid p.keys k - 1) l r key two) lo hi (M1 ++ (N ++ M3)) := fun rd' l r key two N hm hs => by
    cases two with
    | false =>
      have h3 := e16 rd' [] [l] N hm (hs.one rfl) (fun s hs => by cases hs)
      rw [← erase_keys, ← erase_mid _ _ _ (by omega)] at h3
      exact h3
    | true =>
      obtain ⟨h4, h5⟩ := hs.both rfl
      have h3 := e16 rd' [key] [l, r] N hm h4 (fun s hs => by rw [List.mem_singleton.1 hs]; exact h5)
      rw [← set_keys _ _ _ hlt, ← set2_mid _ _ _ _ (by omega)] at h3
      exact h3
  refine ⟨x, y, s, lo', hi', Ma, Mb, hlt, hlen, e1, e2, e3, e5, e6, fun h0 => ?_, fun h0 => ?_⟩
  · have hks : bb k s = true := e12 h0
    have hMb : ∀ z ∈ Mb ++ M3, bb k z.1 = true := fun z hz => by
      rcases List.mem_append.1 hz with hz | hz
      · exact bb_lt_le hks ((repP_bounded rd d 4).inb e6 z hz).1
      · exact e15 z hz
    refine ⟨e10, hks, ?_, fun rd' o q l r key two hm ho hq hc => ?_⟩
    · rw [e4, List.append_assoc, get_mid e14 hMb]
    · have hj := join_rep ho hq e7 e8 e9
      have hdel : M.del k = M1 ++ ((Ma.del k ++ Mb) ++ M3) := by
        rw [e4, List.append_assoc, del_mid e14 hMb, List.append_assoc]
      rw [hdel]
      exact fin rd' l r key two _ hm (hc hj)
  · have hsk : above s k := e13 h0
    have hMa : ∀ z ∈ M1 ++ Ma, bb z.1 k = true := fun z hz => by
      rcases List.mem_append.1 hz with hz | hz
      · exact e14 z hz
      · exact bb_lt_le ((repP_bounded rd d 4).inb e5 z hz).2 hsk
    refine ⟨hsk, e11, ?_, fun rd' o q l r key two hm ho hq hc => ?_⟩
    · rw [e4, List.append_assoc, ← List.append_assoc, get_mid hMa e15]
    · have hj := join_rep hq ho e7 e8 e9
      have hdel : M.del k = M1 ++ ((Ma ++ Mb.del k) ++ M3) := by
        rw [e4, List.append_assoc, ← List.append_assoc, del_mid hMa e15, List.append_assoc, List.append_assoc]
      rw [hdel]
      exact fin rd' l r key two _ hm (hc hj)

end Go.Proofs.YtgofngilfdnakaaGreat
