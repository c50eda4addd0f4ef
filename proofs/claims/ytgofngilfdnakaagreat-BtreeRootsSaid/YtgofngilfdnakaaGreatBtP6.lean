/-
  This text is plain mathematics: lengths of pages that are joined, and keys that are not there; no condition, no Go.
-/
import Derived.Test.YtgofngilfdnakaaGreatBtP5
namespace Go.Proofs.YtgofngilfdnakaaGreat
open Go

theorem repP_leaves {rd : Nat → Pg → Prop} {d : Nat} {a b : Pg} {lo lo' : Str} {hi hi' : Option Str} {M M' : Files} (h : RepP rd d a lo hi M) (h' : RepP rd d b lo' hi' M') : a.leaf = b.leaf := by
  cases d with
  | zero => rw [h.1, h'.1]
  | succ d => rw [h.1, h'.1]
theorem join_lengths {a b : Pg} (s : Str) (h4 : 4 ≤ a.keys.length + b.keys.length) (h11 : a.keys.length + b.keys.length ≤ 11) : 4 ≤ (a.join s b).keys.length ∧ (a.join s b).keys.length ≤ 12 := by
  unfold Pg.join
  cases a.leaf <;> simp only [Bool.false_eq_true, if_false, if_true, List.length_append, List.length_cons] <;> omega
theorem mendKid_len (p : Pg) (i l r : Nat) (key : Str) (two : Bool) (hi : i < p.keys.length) : p.keys.length ≤ (p.mendKid i l r key two).keys.length + 1 ∧ (p.mendKid i l r key two).keys.length ≤ p.keys.length := by
  unfold Pg.mendKid
  cases two
  · simp only [Bool.false_eq_true, if_false]
    rw [List.length_eraseIdx_of_lt hi]
    omega
  · simp only [if_true, List.length_set]
    omega
theorem del_same {M : Files} {k : Str} (h : M.get k = none) : M.del k = M := del_none (get_none_mem h)
theorem TR.none {g : Lg} {root : Int} {M : Files} (h : TR g root M) (hr : root < 0) : M = [] := by
  rcases h with ⟨_, h⟩ | ⟨d, r, rfl, _⟩
  · exact h
  · omega

theorem set_there {α : Type} {l : List α} {i : Nat} {x : α} (h : l[i]? = some x) : l.set i x = l := by
  refine List.ext_getElem? fun j => ?_
  rw [List.getElem?_set]
  split
  · rename_i e
    subst e
    split
    · exact h.symm
    · rename_i hlt
      rw [List.getElem?_eq_none (by omega)] at h
      cases h
  · rfl
theorem set_swap {α : Type} (l : List α) (i : Nat) (x y : α) : (l.set i x).set (i + 1) y = (l.set (i + 1) y).set i x := List.set_comm _ _ (by omega)
theorem mendKid_left {p : Pg} {i l y : Nat} {s : Str} (hs : p.keys[i]? = some s) (hy : p.kids[i + 1]? = some y) : p.mendKid i l y s true = { p with kids := p.kids.set i l } := by
  unfold Pg.mendKid
  simp only [if_true]
  rw [set_there hs, set_swap, set_there hy]
theorem mendKid_right {p : Pg} {i x r : Nat} {s : Str} (hs : p.keys[i]? = some s) (hx : p.kids[i]? = some x) : p.mendKid i x r s true = { p with kids := p.kids.set (i + 1) r } := by
  unfold Pg.mendKid
  simp only [if_true]
  rw [set_there hs, set_there hx]
/-- A key is taken away below a kid: the kid stays, or is joined with the one beside it. -/
theorem node_both {rd : Nat → Pg → Prop} {d : Nat} {p : Pg} {lo : Str} {hi : Option Str} {M : Files} {k : Str} (h : RepP rd (d + 1) p lo hi M) (h1 : above lo k) (h2 : below hi k) (hk : 1 ≤ p.keys.length) :
    ∃ (x y : Nat) (s lo' : Str) (hi' : Option Str) (Ma Mb : Files), kKid p.keys k - 1 < p.keys.length ∧ p.kids.length = p.keys.length + 1 ∧ p.kids[kKid p.keys k - 1]? = some x ∧ p.kids[kKid p.keys k - 1 + 1]? = some y ∧ p.keys[kKid p.keys k - 1]? = some s ∧
      Rep rd 4 d x lo' (some s) Ma ∧ Rep rd 4 d y s hi' Mb ∧
      (kKid p.keys k = 0 → above lo' k ∧ below (some s) k ∧ M.get k = Ma.get k ∧ (∀ (rd' : Nat → Pg → Prop) l, (∀ j q, rd j q → rd' j q) → Rep rd' 4 d l lo' (some s) (Ma.del k) → RepP rd' (d + 1) { p with kids := p.kids.set (kKid p.keys k) l } lo hi (M.del k)) ∧ ∀ (rd' : Nat → Pg → Prop) (o q : Pg) l r key two, (∀ j q, rd j q → rd' j q) → RepP rd' d o lo' (some s) (Ma.del k) → RepP rd' d q s hi' Mb →
        (RepP rd' d (o.join s q) lo' hi' (Ma.del k ++ Mb) ∧ (SplitR rd' 4 d lo' hi' (Ma.del k ++ Mb) l r key two → RepP rd' (d + 1) (p.mendKid (kKid p.keys k - 1) l r key two) lo hi (M.del k)))) ∧
      (0 < kKid p.keys k → above s k ∧ below hi' k ∧ M.get k = Mb.get k ∧ (∀ (rd' : Nat → Pg → Prop) l, (∀ j q, rd j q → rd' j q) → Rep rd' 4 d l s hi' (Mb.del k) → RepP rd' (d + 1) { p with kids := p.kids.set (kKid p.keys k) l } lo hi (M.del k)) ∧ ∀ (rd' : Nat → Pg → Prop) (o q : Pg) l r key two, (∀ j q, rd j q → rd' j q) → RepP rd' d o s hi' (Mb.del k) → RepP rd' d q lo' (some s) Ma →
        (RepP rd' d (q.join s o) lo' hi' (Ma ++ Mb.del k) ∧ (SplitR rd' 4 d lo' hi' (Ma ++ Mb.del k) l r key two → RepP rd' (d + 1) (p.mendKid (kKid p.keys k - 1) l r key two) lo hi (M.del k)))) := by
  have hle := kKid_le p.keys k
  have hlen : p.kids.length = p.keys.length + 1 := kr_length h.2.2.2
  obtain ⟨x, y, s, lo', hi', M1, Ma, Mb, M3, e1, e2, e3, e4, e5, e6, e7, e8, e9, e10, e11, e12, e13, e14, e15, e16⟩ := node_pair (i := kKid p.keys k - 1) h h1 h2 hk rfl
  have hlt : kKid p.keys k - 1 < p.keys.length := by omega
  have fin : ∀ (rd' : Nat → Pg → Prop) l r key two (N : Files), (∀ j q, rd j q → rd' j q) → SplitR rd' 4 d lo' hi' N l r key two → RepP rd' (d + 1) (p.mendKid (kKid p.keys k - 1) l r key two) lo hi (M1 ++ (N ++ M3)) := fun rd' l r key two N hm hs => by
    cases two with
    | false =>
      have h3 := e16 rd' [] [l] N hm (hs.one rfl) (fun s hs => by cases hs)
      rw [← erase_keys, ← erase_mid _ _ _ (by omega)] at h3
      exact h3
    | true =>
      obtain ⟨h4, h5⟩ := hs.both rfl
      have h3 := e16 rd' [key] [l, r] N hm h4 (fun s hs => by rw [List.mem_singleton.1 hs]; exact h5)
      rw [← set_keys _ _ _ hlt, ← set2_mid _ _ _ _ (by omega)] at h3
      exact h3
  refine ⟨x, y, s, lo', hi', Ma, Mb, hlt, hlen, e1, e2, e3, e5, e6, fun h0 => ?_, fun h0 => ?_⟩
  · have hks : bb k s = true := e12 h0
    have hMb : ∀ z ∈ Mb ++ M3, bb k z.1 = true := fun z hz => by
      rcases List.mem_append.1 hz with hz | hz
      · exact bb_lt_le hks ((repP_bounded rd d 4).inb e6 z hz).1
      · exact e15 z hz
    have hdel : M.del k = M1 ++ ((Ma.del k ++ Mb) ++ M3) := by
      rw [e4, List.append_assoc, del_mid e14 hMb, List.append_assoc]
    refine ⟨e10, hks, ?_, fun rd' l hm hl => ?_, fun rd' o q l r key two hm ho hq => ⟨?_, fun hc => ?_⟩⟩
    · rw [e4, List.append_assoc, get_mid e14 hMb]
    · have h6 := fin rd' l y s true (Ma.del k ++ Mb) hm ⟨(fun e => by cases e), fun _ => ⟨⟨_, _, rfl, e7, e8, hl, rep_mono hm e6⟩, e9⟩⟩
      rw [mendKid_left e3 e2, ← hdel] at h6
      rw [h0] at h6 ⊢
      exact h6
    · exact join_rep ho hq e7 e8 e9
    · rw [hdel]
      exact fin rd' l r key two _ hm hc
  · have hsk : above s k := e13 h0
    have hMa : ∀ z ∈ M1 ++ Ma, bb z.1 k = true := fun z hz => by
      rcases List.mem_append.1 hz with hz | hz
      · exact e14 z hz
      · exact bb_lt_le ((repP_bounded rd d 4).inb e5 z hz).2 hsk
    have hdel : M.del k = M1 ++ ((Ma ++ Mb.del k) ++ M3) := by
      rw [e4, List.append_assoc, ← List.append_assoc, del_mid hMa e15, List.append_assoc, List.append_assoc]
    refine ⟨hsk, e11, ?_, fun rd' l hm hl => ?_, fun rd' o q l r key two hm ho hq => ⟨?_, fun hc => ?_⟩⟩
    · rw [e4, List.append_assoc, ← List.append_assoc, get_mid hMa e15]
    · have h6 := fin rd' x l s true (Ma ++ Mb.del k) hm ⟨(fun e => by cases e), fun _ => ⟨⟨_, _, rfl, e7, e8, rep_mono hm e5, hl⟩, e9⟩⟩
      rw [mendKid_right e3 e1, ← hdel] at h6
      rw [show kKid p.keys k - 1 + 1 = kKid p.keys k by omega] at h6
      exact h6
    · exact join_rep hq ho e7 e8 e9
    · rw [hdel]
      exact fin rd' l r key two _ hm hc

end Go.Proofs.YtgofngilfdnakaaGreat
