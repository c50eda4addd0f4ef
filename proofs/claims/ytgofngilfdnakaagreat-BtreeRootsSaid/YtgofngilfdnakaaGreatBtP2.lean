/-
  This text is plain mathematics: what becomes of a page of a tree when a key is put, taken away, when a page is cut in two and when two are joined; no condition, no Go.
-/
import Derived.Test.YtgofngilfdnakaaGreatBtP
namespace Go.Proofs.YtgofngilfdnakaaGreat
open Go

/-- Where a key stands, or would. -/
def kFind (ks : List Str) (k : Str) : Nat := (ks.takeWhile fun s => bb s k).length
def kIs (ks : List Str) (k : Str) : Bool := match ks[kFind ks k]? with
  | some s => s == k
  | none => false
/-- Which kid has a key. -/
def kKid (ks : List Str) (k : Str) : Nat := if kIs ks k then kFind ks k + 1 else kFind ks k
theorem kFind_map (M : Files) (k : Str) : kFind (M.map (·.1)) k = rFind M k := by
  unfold kFind rFind
  rw [List.takeWhile_map, List.length_map]
  rfl
theorem kIs_map (M : Files) (k : Str) : kIs (M.map (·.1)) k = rIs M k := by
  unfold kIs rIs
  rw [kFind_map, List.getElem?_map]
  cases M[rFind M k]? <;> rfl
theorem kFind_le (ks : List Str) (k : Str) : kFind ks k ≤ ks.length := by
  unfold kFind
  exact List.Sublist.length_le (List.takeWhile_sublist _)
theorem kIs_lt {ks : List Str} {k : Str} (h : kIs ks k = true) : kFind ks k < ks.length := by
  apply Classical.byContradiction
  intro hn
  unfold kIs at h
  rw [List.getElem?_eq_none (by omega)] at h
  cases h
theorem kKid_le (ks : List Str) (k : Str) : kKid ks k ≤ ks.length := by
  unfold kKid
  split
  · rename_i h; have := kIs_lt h; omega
  · exact kFind_le ks k
/-- The kid that has a key: what stands ahead is not behind it, what stands behind it is. -/
theorem kKid_split (k : Str) : ∀ (ks : List Str), ks.Pairwise (fun a b => bb a b = true) → (∀ s ∈ ks.take (kKid ks k), bb k s = false) ∧ ∀ s ∈ ks.drop (kKid ks k), bb k s = true
  | [], _ => ⟨fun _ h => by simp at h, fun _ h => by simp at h⟩
  | s :: ks, hp => by
    have h2 := List.pairwise_cons.1 hp
    cases hb : bb s k with
    | true =>
      have hf : kFind (s :: ks) k = kFind ks k + 1 := by unfold kFind; rw [List.takeWhile_cons, if_pos hb]; rfl
      have hi : kIs (s :: ks) k = kIs ks k := by unfold kIs; rw [hf, List.getElem?_cons_succ]
      have hk : kKid (s :: ks) k = kKid ks k + 1 := by unfold kKid; rw [hf, hi]; split <;> omega
      have ih := kKid_split k ks h2.2
      rw [hk, List.take_succ_cons, List.drop_succ_cons]
      refine ⟨fun t ht => ?_, ih.2⟩
      rcases List.mem_cons.1 ht with rfl | ht
      · exact bb_asymm hb
      · exact ih.1 t ht
    | false =>
      have hf : kFind (s :: ks) k = 0 := by unfold kFind; rw [List.takeWhile_cons, if_neg (by rw [hb]; decide)]; rfl
      have hi : kIs (s :: ks) k = (s == k) := by unfold kIs; rw [hf]; rfl
      by_cases e : s = k
      · subst e
        have hk : kKid (s :: ks) s = 1 := by unfold kKid; rw [hf, hi]; simp
        rw [hk]
        refine ⟨fun t ht => ?_, fun t ht => h2.1 t ht⟩
        simp only [List.take_succ_cons, List.take_zero, List.mem_singleton] at ht
        rw [ht]
        exact WideAt.bytes_irrefl _
      · have hk : kKid (s :: ks) k = 0 := by
          unfold kKid
          rw [hf, hi, if_neg (by simpa using e)]
        have h3 : bb k s = true := by
          rcases WideAt.bytes_total s k e with h | h
          · rw [show bytesBefore s k = bb s k from rfl, hb] at h; cases h
          · exact h
        rw [hk]
        refine ⟨fun t ht => by simp at ht, fun t ht => ?_⟩
        rw [List.drop_zero] at ht
        rcases List.mem_cons.1 ht with rfl | ht
        · exact h3
        · exact bb_trans h3 (h2.1 t ht)

/-! ### a leaf -/
def insL {α : Type} (l : List α) (i : Nat) (x : α) : List α := l.take i ++ x :: l.drop i
def Pg.putLeaf (p : Pg) (k v : Str) : Pg := if kIs p.keys k then { p with vals := p.vals.set (kFind p.keys k) v } else { p with keys := insL p.keys (kFind p.keys k) k, vals := insL p.vals (kFind p.keys k) v }
theorem get_of_rIs {M : Files} {k : Str} (h : rIs M k = true) : ∃ x, M[rFind M k]? = some x ∧ x.1 = k := by
  unfold rIs at h
  cases hx : M[rFind M k]? with
  | none => rw [hx] at h; cases h
  | some x =>
    rw [hx] at h
    exact ⟨x, rfl, by simpa using h⟩
theorem put_keys {M : Files} (k v : Str) (h : Sorted M) : (M.put k v).map (·.1) = (if rIs M k then M.map (·.1) else insL (M.map (·.1)) (rFind M k) k) ∧ (M.put k v).map (·.2) = (if rIs M k then (M.map (·.2)).set (rFind M k) v else insL (M.map (·.2)) (rFind M k) v) := by
  rw [← rPut_put k v M h]
  unfold rPut insL
  cases hi : rIs M k with
  | true =>
    obtain ⟨x, hx, rfl⟩ := get_of_rIs hi
    obtain ⟨hlt, hx2⟩ := List.getElem?_eq_some_iff.1 hx
    rw [if_pos rfl, if_pos rfl, if_pos rfl]
    generalize rFind M x.1 = i at *
    have e : M = M.take i ++ x :: M.drop (i + 1) := by
      rw [← hx2, ← List.drop_eq_getElem_cons hlt, List.take_append_drop]
    constructor
    · conv => rhs; rw [e]
      simp
    · conv => rhs; rw [e]
      have hl : (M.take i).length = i := by rw [List.length_take]; omega
      rw [List.map_append, List.map_append, List.map_cons, List.map_cons, List.set_append_right _ _ (by simp; omega)]
      simp
      congr 1
      have : i - min i M.length = 0 := by omega
      rw [this]
      rfl
  | false =>
    rw [if_neg (by decide), if_neg (by decide), if_neg (by decide)]
    simp
theorem putLeaf_rep {rd : Nat → Pg → Prop} {p : Pg} {lo : Str} {hi : Option Str} {M : Files} {k v : Str} (h : RepP rd 0 p lo hi M) (hk : keyOk k) (hv : v.length ≤ 8192) (h1 : above lo k) (h2 : below hi k) :
    RepP rd 0 (p.putLeaf k v) lo hi (M.put k v) ∧ p.keys.length ≤ (p.putLeaf k v).keys.length ∧ (p.putLeaf k v).keys.length ≤ p.keys.length + 1 := by
  obtain ⟨g1, g2, g3, g4, g5, g6⟩ := h
  obtain ⟨e1, e2⟩ := put_keys k v g5
  have hmem : ∀ y ∈ M.put k v, above lo y.1 ∧ below hi y.1 ∧ keyOk y.1 ∧ y.2.length ≤ 8192 := fun y hy => by
    unfold Files.put at hy
    rcases ins_mem _ _ y hy with rfl | hy
    · exact ⟨h1, h2, hk, hv⟩
    · exact g6 y ((List.mem_filter.1 hy).1)
  have hl : rFind M k ≤ M.length := by rw [← kFind_map]; have := kFind_le (M.map (·.1)) k; simpa using this
  unfold Pg.putLeaf
  rw [g3, kIs_map, kFind_map, g4]
  cases hi : rIs M k with
  | true =>
    rw [hi] at e1 e2
    simp only [if_true] at e1 e2
    rw [if_pos rfl]
    exact ⟨⟨g1, g2, by rw [e1], by rw [e2], put_sorted _ _ g5, hmem⟩, Nat.le_refl _, Nat.le_succ _⟩
  | false =>
    rw [hi] at e1 e2
    simp only [Bool.false_eq_true, if_false] at e1 e2
    rw [if_neg (by decide)]
    refine ⟨⟨g1, g2, by rw [e1], by rw [e2], put_sorted _ _ g5, hmem⟩, ?_, ?_⟩
    · simp only [insL, List.length_append, List.length_cons, List.length_take, List.length_drop, List.length_map]
      omega
    · simp only [insL, List.length_append, List.length_cons, List.length_take, List.length_drop, List.length_map]
      omega
theorem del_keys {M : Files} (k : Str) (h : Sorted M) (hi : rIs M k = true) : (M.del k).map (·.1) = (M.map (·.1)).eraseIdx (rFind M k) ∧ (M.del k).map (·.2) = (M.map (·.2)).eraseIdx (rFind M k) := by
  rw [← rDrop_del k M h]
  unfold rDrop
  rw [if_pos hi, List.eraseIdx_eq_take_drop_succ, List.eraseIdx_eq_take_drop_succ]
  simp
def Pg.delLeaf (p : Pg) (k : Str) : Pg := { p with keys := p.keys.eraseIdx (kFind p.keys k), vals := p.vals.eraseIdx (kFind p.keys k) }
theorem delLeaf_rep {rd : Nat → Pg → Prop} {p : Pg} {lo : Str} {hi : Option Str} {M : Files} {k : Str} (h : RepP rd 0 p lo hi M) (hi2 : kIs p.keys k = true) :
    RepP rd 0 (p.delLeaf k) lo hi (M.del k) ∧ (p.delLeaf k).keys.length + 1 = p.keys.length := by
  obtain ⟨g1, g2, g3, g4, g5, g6⟩ := h
  have hlt := kIs_lt hi2
  rw [g3, kIs_map] at hi2
  obtain ⟨e1, e2⟩ := del_keys k g5 hi2
  unfold Pg.delLeaf
  refine ⟨⟨g1, g2, ?_, ?_, del_sorted _ g5, fun y hy => g6 y ((List.mem_filter.1 hy).1)⟩, ?_⟩
  · rw [g3, kFind_map, e1]
  · rw [g3, kFind_map, e2, g4]
  · rw [List.length_eraseIdx, if_pos hlt]
    omega
theorem leaf_get {rd : Nat → Pg → Prop} {p : Pg} {lo : Str} {hi : Option Str} {M : Files} {k : Str} (h : RepP rd 0 p lo hi M) : M.get k = if kIs p.keys k then p.vals[kFind p.keys k]? else none := by
  obtain ⟨g1, g2, g3, g4, g5, g6⟩ := h
  rw [g3, g4, kIs_map, kFind_map, rIs_get k M g5]
  cases hi : rIs M k with
  | true =>
    obtain ⟨x, hx, rfl⟩ := get_of_rIs hi
    rw [if_pos rfl, if_pos rfl]
    unfold rAt
    rw [hx, List.getElem?_map, hx]
    rfl
  | false => rfl

/-! ### a node -/
theorem split3 {α : Type} (l : List α) (i : Nat) (h : i < l.length) : l = l.take i ++ ([l[i]] ++ l.drop (i + 1)) := by
  rw [List.singleton_append, ← List.drop_eq_getElem_cons h, List.take_append_drop]
theorem mem_last {lo : Str} : ∀ {A : List Str}, A ≠ [] → lastOr lo A ∈ A := by
  intro A h
  rcases List.eq_nil_or_concat A with rfl | ⟨A', a, rfl⟩
  · exact absurd rfl h
  · simp [lastOr]
theorem lastOr_nil (lo : Str) : lastOr lo [] = lo := rfl
/-- The kid that has a key, and what it is to lay others in its place. -/
theorem node_kid {rd : Nat → Pg → Prop} {d : Nat} {p : Pg} {lo : Str} {hi : Option Str} {M : Files} {k : Str} (h : RepP rd (d + 1) p lo hi M) (h1 : above lo k) (h2 : below hi k) :
    ∃ (x : Nat) (lo' : Str) (hi' : Option Str) (M1 M2 M3 : Files), p.kids[kKid p.keys k]? = some x ∧ M = M1 ++ (M2 ++ M3) ∧ Rep rd 4 d x lo' hi' M2 ∧ above lo' k ∧ below hi' k ∧ (∀ y ∈ M1, bb y.1 k = true) ∧ (∀ y ∈ M3, bb k y.1 = true) ∧
      ∀ (rd' : Nat → Pg → Prop) B' KB' M2', (∀ j q, rd j q → rd' j q) → KidsRep (Rep rd' 4 d) B' KB' lo' hi' M2' → (∀ s ∈ B', keyOk s) →
        RepP rd' (d + 1) { p with keys := p.keys.take (kKid p.keys k) ++ (B' ++ p.keys.drop (kKid p.keys k)), kids := p.kids.take (kKid p.keys k) ++ (KB' ++ p.kids.drop (kKid p.keys k + 1)) } lo hi (M1 ++ (M2' ++ M3)) := by
  rw [rep_node] at h
  obtain ⟨g1, g2, g3, g4⟩ := h
  have hkeys := kr_keys g4
  have hlen := kr_length g4
  obtain ⟨s1, s2⟩ := kKid_split k p.keys hkeys.1
  have hle := kKid_le p.keys k
  generalize hi0 : kKid p.keys k = i at *
  have hlt : i < p.kids.length := by omega
  have e1 : p.keys = p.keys.take i ++ ([] ++ p.keys.drop i) := by rw [List.nil_append, List.take_append_drop]
  have e2 := split3 p.kids i hlt
  rw [e1, e2] at g4
  have lenA : (p.kids.take i).length = (p.keys.take i).length := by rw [List.length_take, List.length_take]; omega
  have hB : [p.kids[i]].length = ([] : List Str).length + 1 := rfl
  obtain ⟨M1, M2, M3, hM, f1, f2, f3, f4⟩ := kr_seg (B := []) (KB := [p.kids[i]]) (repP_bounded rd d 4) g4 lenA hB
  have a1 : above (lastOr lo (p.keys.take i)) k := by
    by_cases hn : p.keys.take i = []
    · rw [hn]; exact h1
    · exact s1 _ (mem_last hn)
  have a2 : below (headOr hi (p.keys.drop i)) k := by
    cases hd : p.keys.drop i with
    | nil => exact h2
    | cons c C => exact s2 c (by rw [hd]; exact List.mem_cons_self)
  refine ⟨p.kids[i], lastOr lo (p.keys.take i), headOr hi (p.keys.drop i), M1, M2, M3, List.getElem?_eq_getElem hlt, hM, f1, a1, a2, f2 k a1, f3 k a2, fun rd' B' KB' M2' hrd hB' hok => ?_⟩
  rw [rep_node]
  refine ⟨g1, g2, fun s hs => ?_, ?_⟩
  · rcases List.mem_append.1 hs with hs | hs
    · exact g3 s (List.mem_of_mem_take hs)
    · rcases List.mem_append.1 hs with hs | hs
      · exact hok s hs
      · exact g3 s (List.mem_of_mem_drop hs)
  · exact f4 _ (fun j lo hi N hN => rep_mono hrd hN) B' KB' M2' hB'

end Go.Proofs.YtgofngilfdnakaaGreat
