/-
  This text is plain mathematics: a tree's root, and what becomes of it; no condition, no Go.
-/
import Derived.Test.YtgofngilfdnakaaGreatBtP4
namespace Go.Proofs.YtgofngilfdnakaaGreat
open Go

/-- A tree's root in a log, and the keys with their values. -/
def TR (g : Lg) (root : Int) (M : Files) : Prop := (root = -1 ∧ M = []) ∨ ∃ d r : Nat, root = (r : Int) ∧ Rep (rdG g) 1 d r [] none M
theorem TR.sorted {g : Lg} {root : Int} {M : Files} (h : TR g root M) : Sorted M := by
  rcases h with ⟨_, rfl⟩ | ⟨d, r, _, h⟩
  · exact List.Pairwise.nil
  · exact (repP_bounded (rdG g) d 1).sorted h
theorem TR.grew {g g' : Lg} {root : Int} {M : Files} (h : TR g root M) (hg : Grew g g') : TR g' root M := by
  rcases h with h | ⟨d, r, h1, h2⟩
  · exact .inl h
  · exact .inr ⟨d, r, h1, rep_mono hg.rd h2⟩
theorem above_nil (k : Str) : above [] k := by
  unfold above
  cases k <;> rfl
/-- The first key. -/
theorem first_rep {rd : Nat → Pg → Prop} {k v : Str} (hk : keyOk k) (hv : v.length ≤ 8192) : RepP rd 0 ⟨true, [k], [v], []⟩ [] none (Files.put [] k v) :=
  ⟨rfl, rfl, rfl, rfl, List.pairwise_singleton _ _, fun y hy => by
    have : y = (k, v) := by simpa [Files.put, Files.del, Files.ins] using hy
    subst this
    exact ⟨above_nil k, trivial, hk, hv⟩⟩
/-- A root above two pages. -/
theorem root_two {rd : Nat → Pg → Prop} {m d : Nat} {M : Files} {l r : Nat} {key : Str} (h : SplitR rd m d [] none M l r key true) : RepP rd (d + 1) ⟨false, [key], [], [l, r]⟩ [] none M := by
  obtain ⟨h1, h2⟩ := h.both rfl
  exact ⟨rfl, rfl, fun s hs => by rw [List.mem_singleton.1 hs]; exact h2, h1⟩
/-- A page without keys. -/
theorem root_none {rd : Nat → Pg → Prop} {d : Nat} {p : Pg} {M : Files} (h : RepP rd d p [] none M) (hk : p.keys.length = 0) : (p.leaf = true → M = []) ∧ (p.leaf = false → ∃ x d', p.kids = [x] ∧ Rep rd 4 d' x [] none M) := by
  have hk' : p.keys = [] := List.eq_nil_of_length_eq_zero hk
  cases d with
  | zero =>
    obtain ⟨g1, _, g3, _⟩ := h
    refine ⟨fun _ => ?_, fun e => by rw [g1] at e; cases e⟩
    rw [hk'] at g3
    exact List.map_eq_nil_iff.1 g3.symm
  | succ d =>
    obtain ⟨g1, g2, g3, g4⟩ := h
    refine ⟨fun e => by rw [g1] at e; (cases e), fun _ => ?_⟩
    rw [hk'] at g4
    match hkids : p.kids, g4 with
    | [x], g4 => exact ⟨x, d, rfl, g4⟩
    | [], g4 => exact g4.elim
    | _ :: _ :: _, g4 => exact g4.elim
/-- A page's keys lie between the bounds. -/
theorem repP_keys {rd : Nat → Pg → Prop} : ∀ {d : Nat} {p : Pg} {lo : Str} {hi : Option Str} {M : Files}, RepP rd d p lo hi M → ∀ s ∈ p.keys, above lo s ∧ below hi s ∧ keyOk s
  | 0, p, lo, hi, M, h => fun s hs => by
    obtain ⟨_, _, g3, _, _, g6⟩ := h
    rw [g3] at hs
    obtain ⟨y, hy, rfl⟩ := List.mem_map.1 hs
    exact ⟨(g6 y hy).1, (g6 y hy).2.1, (g6 y hy).2.2.1⟩
  | d + 1, p, lo, hi, M, h => fun s hs => by
    obtain ⟨_, _, g3, g4⟩ := h
    have := (kr_keys g4).2 s hs
    exact ⟨bb_asymm this.1, this.2, g3 s hs⟩
/-- The kids one by one. -/
theorem kr_at {R : Nat → Str → Option Str → Files → Prop} : ∀ {ks : List Str} {kids : List Nat} {lo : Str} {hi : Option Str} {M : Files}, KidsRep R ks kids lo hi M → ∀ i (h : i < kids.length), ∃ M', R kids[i] (if i = 0 then lo else ks[i - 1]?.getD []) (if i < ks.length then some (ks[i]?.getD []) else hi) M' ∧ M'.length ≤ M.length
  | [], [k], lo, hi, M, h => fun i hi0 => by
    simp only [List.length_singleton] at hi0
    obtain rfl : i = 0 := by omega
    exact ⟨M, h, Nat.le_refl _⟩
  | [], [], _, _, _, h => h.elim
  | [], _ :: _ :: _, _, _, _, h => h.elim
  | _ :: _, [], _, _, _, h => h.elim
  | s :: ks, k :: kids, lo, hi, M, h => fun i hi0 => by
    obtain ⟨M1, M2, rfl, h2, h3, h4, h5⟩ := h
    cases i with
    | zero => exact ⟨M1, h4, by simp⟩
    | succ i =>
      obtain ⟨M', g, g2⟩ := kr_at h5 i (by simpa using hi0)
      refine ⟨M', ?_, by rw [List.length_append]; omega⟩
      rw [if_neg (by omega)]
      simp only [List.getElem_cons_succ, List.getElem?_cons_succ, List.length_cons, Nat.add_lt_add_iff_right]
      cases i with
      | zero =>
        rw [if_pos rfl] at g
        exact g
      | succ i =>
        rw [if_neg (by omega)] at g
        exact g
theorem del_length (M : Files) (k : Str) : (M.del k).length ≤ M.length := by unfold Files.del; exact List.length_filter_le _ _
theorem ins_length (x : Str × Str) : ∀ M : Files, (Files.ins x M).length = M.length + 1
  | [] => rfl
  | y :: M => by
    unfold Files.ins
    split
    · rfl
    · rw [List.length_cons, ins_length x M, List.length_cons]
theorem put_length (M : Files) (k v : Str) : (M.put k v).length ≤ M.length + 1 := by
  unfold Files.put
  rw [ins_length]
  have := del_length M k
  omega

end Go.Proofs.YtgofngilfdnakaaGreat
