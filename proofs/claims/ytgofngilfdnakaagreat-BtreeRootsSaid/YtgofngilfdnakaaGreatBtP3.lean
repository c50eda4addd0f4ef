/-
  This text is plain mathematics: pages of a tree that are cut in two, joined, and their neighbours; no condition, no Go.
-/
import Derived.Test.YtgofngilfdnakaaGreatBtP2
namespace Go.Proofs.YtgofngilfdnakaaGreat
open Go

/-! ### cut in two -/
def Pg.lower (p : Pg) (m : Nat) : Pg := ⟨p.leaf, p.keys.take m, if p.leaf then p.vals.take m else [], if p.leaf then [] else p.kids.take (m + 1)⟩
def Pg.upper (p : Pg) (m : Nat) : Pg := ⟨p.leaf, if p.leaf then p.keys.drop m else p.keys.drop (m + 1), if p.leaf then p.vals.drop m else [], if p.leaf then [] else p.kids.drop (m + 1)⟩
theorem cut_rep {rd : Nat → Pg → Prop} {d : Nat} {p : Pg} {lo : Str} {hi : Option Str} {M : Files} {m : Nat} {s : Str} (h : RepP rd d p lo hi M) (hm0 : 0 < m) (hm : p.keys[m]? = some s) :
    ∃ M1 M2, M = M1 ++ M2 ∧ RepP rd d (p.lower m) lo (some s) M1 ∧ RepP rd d (p.upper m) s hi M2 ∧ bb lo s = true ∧ below hi s ∧ keyOk s := by
  obtain ⟨hlt, hs⟩ := List.getElem?_eq_some_iff.1 hm
  cases d with
  | zero =>
    obtain ⟨g1, g2, g3, g4, g5, g6⟩ := h
    have hlM : m < M.length := by rw [g3, List.length_map] at hlt; exact hlt
    have hsM : s = M[m].1 := by
      rw [g3, List.getElem?_map, List.getElem?_eq_getElem hlM] at hm
      simpa using hm.symm
    have e : M = M.take m ++ M.drop m := (List.take_append_drop m M).symm
    have hp := List.pairwise_append.1 (e ▸ g5 : Sorted (M.take m ++ M.drop m))
    have hmem : M[m] ∈ M.drop m := by rw [List.drop_eq_getElem_cons hlM]; exact List.mem_cons_self
    have h6 := g6 M[m] (List.getElem_mem hlM)
    have hfirst : ∃ y, y ∈ M.take m := by
      refine ⟨M[0], ?_⟩
      rw [List.mem_take_iff_getElem]
      exact ⟨0, by omega, rfl⟩
    obtain ⟨y0, hy0⟩ := hfirst
    have hy0s := hp.2.2 y0 hy0 M[m] hmem
    have hlo : bb lo s = true := by
      rw [hsM]
      exact bb_le_lt (g6 y0 (List.mem_of_mem_take hy0)).1 hy0s
    have hge : ∀ y ∈ M.drop m, bb y.1 s = false := fun y hy => by
      rw [List.drop_eq_getElem_cons hlM] at hy hp
      rcases List.mem_cons.1 hy with rfl | hy
      · rw [hsM]; exact WideAt.bytes_irrefl _
      · rw [hsM]; exact bb_asymm ((List.pairwise_cons.1 hp.2.1).1 y hy)
    refine ⟨M.take m, M.drop m, e, ?_, ?_, hlo, by rw [hsM]; exact h6.2.1, by rw [hsM]; exact h6.2.2.1⟩
    · unfold Pg.lower
      rw [g1]
      refine ⟨rfl, rfl, ?_, ?_, hp.1, fun y hy => ?_⟩
      · rw [g3, List.map_take]
      · rw [if_pos rfl, g4, List.map_take]
      · have := g6 y (List.mem_of_mem_take hy)
        exact ⟨this.1, by rw [hsM]; exact hp.2.2 y hy M[m] hmem, this.2.2⟩
    · unfold Pg.upper
      rw [g1]
      refine ⟨rfl, rfl, ?_, ?_, hp.2.1, fun y hy => ?_⟩
      · rw [if_pos rfl, g3, List.map_drop]
      · show (if true = true then p.vals.drop m else []) = _
        rw [if_pos rfl, g4, List.map_drop]
      · have := g6 y (List.mem_of_mem_drop hy)
        exact ⟨hge y hy, this.2⟩
  | succ d =>
    rw [rep_node] at h
    obtain ⟨g1, g2, g3, g4⟩ := h
    have hl := kr_length g4
    have e1 : p.keys = p.keys.take m ++ s :: p.keys.drop (m + 1) := by rw [← hs, ← List.drop_eq_getElem_cons hlt, List.take_append_drop]
    have e2 : p.kids = p.kids.take (m + 1) ++ p.kids.drop (m + 1) := (List.take_append_drop _ _).symm
    have hlen : (p.kids.take (m + 1)).length = (p.keys.take m).length + 1 := by rw [List.length_take, List.length_take]; omega
    rw [e1, e2] at g4
    obtain ⟨M1, M2, hM, f1, f2, f3, f4⟩ := kr_cut g4 hlen
    refine ⟨M1, M2, hM, ?_, ?_, f1, f2, g3 s (by rw [← hs]; exact List.getElem_mem hlt)⟩
    · rw [rep_node]
      unfold Pg.lower
      rw [g1]
      exact ⟨rfl, rfl, fun t ht => g3 t (List.mem_of_mem_take ht), f3⟩
    · rw [rep_node]
      unfold Pg.upper
      rw [g1]
      exact ⟨rfl, rfl, fun t ht => g3 t (List.mem_of_mem_drop ht), f4⟩
theorem cut_lengths {p : Pg} (h9 : 9 ≤ p.keys.length) (h12 : p.keys.length ≤ 12) :
    4 ≤ (p.lower (p.keys.length / 2)).keys.length ∧ (p.lower (p.keys.length / 2)).keys.length ≤ 8 ∧ 4 ≤ (p.upper (p.keys.length / 2)).keys.length ∧ (p.upper (p.keys.length / 2)).keys.length ≤ 8 := by
  unfold Pg.lower Pg.upper
  simp only
  split
  · rw [List.length_take, List.length_drop]; omega
  · rw [List.length_take, List.length_drop]; omega

/-! ### joined -/
def Pg.join (a : Pg) (s : Str) (b : Pg) : Pg := ⟨a.leaf, if a.leaf then a.keys ++ b.keys else a.keys ++ s :: b.keys, a.vals ++ b.vals, a.kids ++ b.kids⟩
theorem join_rep {rd : Nat → Pg → Prop} {d : Nat} {a b : Pg} {lo s : Str} {hi : Option Str} {M1 M2 : Files} (h1 : RepP rd d a lo (some s) M1) (h2 : RepP rd d b s hi M2) (hl : bb lo s = true) (hh : below hi s) (hs : keyOk s) : RepP rd d (a.join s b) lo hi (M1 ++ M2) := by
  cases d with
  | zero =>
    obtain ⟨g1, g2, g3, g4, g5, g6⟩ := h1
    obtain ⟨f1, f2, f3, f4, f5, f6⟩ := h2
    unfold Pg.join
    rw [g1]
    refine ⟨rfl, by rw [g2, f2]; rfl, by rw [if_pos rfl, g3, f3, List.map_append], by rw [g4, f4, List.map_append], List.pairwise_append.2 ⟨g5, f5, fun x hx y hy => bb_lt_le (g6 x hx).2.1 (f6 y hy).1⟩, fun y hy => ?_⟩
    rcases List.mem_append.1 hy with hy | hy
    · have := g6 y hy
      exact ⟨this.1, below_trans this.2.1 hh, this.2.2⟩
    · have := f6 y hy
      exact ⟨bb_asymm (bb_lt_le hl this.1), this.2⟩
  | succ d =>
    rw [rep_node] at h1 h2 ⊢
    obtain ⟨g1, g2, g3, g4⟩ := h1
    obtain ⟨f1, f2, f3, f4⟩ := h2
    unfold Pg.join
    rw [g1]
    refine ⟨rfl, by rw [g2, f2]; rfl, fun t ht => ?_, ?_⟩
    · rw [if_neg (by decide)] at ht
      rcases List.mem_append.1 ht with ht | ht
      · exact g3 t ht
      · rcases List.mem_cons.1 ht with rfl | ht
        · exact hs
        · exact f3 t ht
    · rw [if_neg (by decide)]
      exact kr_join hh f4 hl g4
theorem join_leaf {rd : Nat → Pg → Prop} {d : Nat} {a b : Pg} {lo lo' : Str} {hi hi' : Option Str} {M1 M2 : Files} (h1 : RepP rd d a lo hi' M1) (h2 : RepP rd d b lo' hi M2) : a.leaf = b.leaf := by
  cases d with
  | zero => rw [h1.1, h2.1]
  | succ d => rw [h1.1, h2.1]
theorem join_length (a b : Pg) (s : Str) : (a.join s b).keys.length = if a.leaf then a.keys.length + b.keys.length else a.keys.length + b.keys.length + 1 := by
  unfold Pg.join
  simp only
  split
  · rw [List.length_append]
  · rw [List.length_append, List.length_cons]; omega

/-! ### two neighbours -/
theorem split4 {α : Type} (l : List α) (i : Nat) (h : i + 1 < l.length) : l = l.take i ++ ([l[i], l[i + 1]] ++ l.drop (i + 2)) := by
  show l = l.take i ++ (l[i] :: l[i + 1] :: l.drop (i + 2))
  rw [← List.drop_eq_getElem_cons h, ← List.drop_eq_getElem_cons (by omega : i < l.length), List.take_append_drop]
/-- The kid that has a key, and the one beside it: at i and behind it. -/
theorem node_pair {rd : Nat → Pg → Prop} {d : Nat} {p : Pg} {lo : Str} {hi : Option Str} {M : Files} {k : Str} {i : Nat} (h : RepP rd (d + 1) p lo hi M) (h1 : above lo k) (h2 : below hi k) (hk : 1 ≤ p.keys.length) (hi0 : i = kKid p.keys k - 1) :
    ∃ (x y : Nat) (s lo' : Str) (hi' : Option Str) (M1 Ma Mb M3 : Files), p.kids[i]? = some x ∧ p.kids[i + 1]? = some y ∧ p.keys[i]? = some s ∧ M = M1 ++ ((Ma ++ Mb) ++ M3) ∧ Rep rd 4 d x lo' (some s) Ma ∧ Rep rd 4 d y s hi' Mb ∧ bb lo' s = true ∧ below hi' s ∧ keyOk s ∧
      above lo' k ∧ below hi' k ∧ (kKid p.keys k = 0 → bb k s = true) ∧ (0 < kKid p.keys k → above s k) ∧ (∀ y ∈ M1, bb y.1 k = true) ∧ (∀ y ∈ M3, bb k y.1 = true) ∧
      ∀ (rd' : Nat → Pg → Prop) B' KB' M2', (∀ j q, rd j q → rd' j q) → KidsRep (Rep rd' 4 d) B' KB' lo' hi' M2' → (∀ s ∈ B', keyOk s) →
        RepP rd' (d + 1) { p with keys := p.keys.take i ++ (B' ++ p.keys.drop (i + 1)), kids := p.kids.take i ++ (KB' ++ p.kids.drop (i + 2)) } lo hi (M1 ++ (M2' ++ M3)) := by
  rw [rep_node] at h
  obtain ⟨g1, g2, g3, g4⟩ := h
  have hkeys := kr_keys g4
  have hlen := kr_length g4
  obtain ⟨s1, s2⟩ := kKid_split k p.keys hkeys.1
  have hle := kKid_le p.keys k
  have hlt : i < p.keys.length := by omega
  have hlt2 : i + 1 < p.kids.length := by omega
  have e1 := split3 p.keys i hlt
  have e2 := split4 p.kids i hlt2
  rw [e1, e2] at g4
  have lenA : (p.kids.take i).length = (p.keys.take i).length := by rw [List.length_take, List.length_take]; omega
  obtain ⟨M1, M2, M3, hM, f1, f2, f3, f4⟩ := kr_seg (B := [p.keys[i]]) (KB := [p.kids[i], p.kids[i + 1]]) (repP_bounded rd d 4) g4 lenA rfl
  obtain ⟨Ma, Mb, rfl, t1, t2, t3, t4⟩ := f1
  have a1 : above (lastOr lo (p.keys.take i)) k := by
    by_cases hn : p.keys.take i = []
    · rw [hn]; exact h1
    · have hmem := mem_last (lo := lo) hn
      refine s1 _ ?_
      rw [show kKid p.keys k = i + (kKid p.keys k - i) by omega, List.take_add]
      exact List.mem_append_left _ hmem
  have a2 : below (headOr hi (p.keys.drop (i + 1))) k := by
    cases hd : p.keys.drop (i + 1) with
    | nil => exact h2
    | cons c C =>
      refine s2 c ?_
      have hc : c ∈ p.keys.drop (i + 1) := by rw [hd]; exact List.mem_cons_self
      by_cases h0 : kKid p.keys k = 0
      · rw [h0]
        exact List.mem_of_mem_drop hc
      · rw [show kKid p.keys k = i + 1 by omega]
        exact hc
  refine ⟨p.kids[i], p.kids[i + 1], p.keys[i], lastOr lo (p.keys.take i), headOr hi (p.keys.drop (i + 1)), M1, Ma, Mb, M3, List.getElem?_eq_getElem (by omega), List.getElem?_eq_getElem hlt2, List.getElem?_eq_getElem hlt, hM, t3, t4, t1, t2, g3 _ (List.getElem_mem hlt), a1, a2, fun h0 => ?_, fun h0 => ?_, f2 k a1, f3 k a2, fun rd' B' KB' M2' hrd hB' hok => ?_⟩
  · refine s2 _ ?_
    rw [h0, List.drop_zero]
    exact List.getElem_mem hlt
  · refine s1 _ ?_
    rw [List.mem_take_iff_getElem]
    exact ⟨i, by omega, rfl⟩
  · rw [rep_node]
    refine ⟨g1, g2, fun s hs => ?_, f4 _ (fun j lo hi N hN => rep_mono hrd hN) B' KB' M2' hB'⟩
    rcases List.mem_append.1 hs with hs | hs
    · exact g3 s (List.mem_of_mem_take hs)
    · rcases List.mem_append.1 hs with hs | hs
      · exact hok s hs
      · exact g3 s (List.mem_of_mem_drop hs)

/-! ### a page that may be -/
def pgOk (p : Pg) : Prop := p.keys.Pairwise (fun a b => bb a b = true) ∧ (∀ s ∈ p.keys, keyOk s) ∧ p.keys.length ≤ 8 ∧
  (p.leaf = true → p.kids = [] ∧ p.vals.length = p.keys.length ∧ ∀ v ∈ p.vals, v.length ≤ 8192) ∧ (p.leaf = false → p.vals = [] ∧ 1 ≤ p.keys.length ∧ p.kids.length = p.keys.length + 1 ∧ ∀ k ∈ p.kids, k ≤ 2147483647)
theorem kr_places {R : Nat → Str → Option Str → Files → Prop} (hR : ∀ {k lo hi M}, R k lo hi M → k ≤ 2147483647) : ∀ {ks : List Str} {kids : List Nat} {lo : Str} {hi : Option Str} {M : Files}, KidsRep R ks kids lo hi M → ∀ k ∈ kids, k ≤ 2147483647
  | [], [_], _, _, _, h => fun k hk => by rw [List.mem_singleton.1 hk]; exact hR h
  | [], [], _, _, _, h => h.elim
  | [], _ :: _ :: _, _, _, _, h => h.elim
  | _ :: _, [], _, _, _, h => h.elim
  | s :: ks, k :: kids, lo, hi, M, h => fun j hj => by
    obtain ⟨M1, M2, rfl, h2, h3, h4, h5⟩ := h
    rcases List.mem_cons.1 hj with rfl | hj
    · exact hR h4
    · exact kr_places hR h5 j hj
theorem rep_ok {rd : Nat → Pg → Prop} {d : Nat} {p : Pg} {lo : Str} {hi : Option Str} {M : Files} (h : RepP rd d p lo hi M) (h1 : 1 ≤ p.keys.length) (h8 : p.keys.length ≤ 8) : pgOk p := by
  cases d with
  | zero =>
    obtain ⟨g1, g2, g3, g4, g5, g6⟩ := h
    refine ⟨by rw [g3]; exact List.pairwise_map.2 g5, fun s hs => ?_, h8, fun _ => ⟨g2, by rw [g3, g4]; simp, fun v hv => ?_⟩, fun e => by rw [g1] at e; cases e⟩
    · rw [g3] at hs
      obtain ⟨y, hy, rfl⟩ := List.mem_map.1 hs
      exact (g6 y hy).2.2.1
    · rw [g4] at hv
      obtain ⟨y, hy, rfl⟩ := List.mem_map.1 hv
      exact (g6 y hy).2.2.2
  | succ d =>
    rw [rep_node] at h
    obtain ⟨g1, g2, g3, g4⟩ := h
    exact ⟨(kr_keys g4).1, g3, h8, (fun e => by rw [g1] at e; cases e), fun _ => ⟨g2, h1, kr_length g4, kr_places (fun h => h.1) g4⟩⟩

end Go.Proofs.YtgofngilfdnakaaGreat
