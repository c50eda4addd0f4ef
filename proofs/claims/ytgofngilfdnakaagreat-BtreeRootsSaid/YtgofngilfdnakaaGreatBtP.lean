/-
  This text is plain mathematics: trees of pages, as the package btree has them: which keys a page and all below it have, and what becomes of that; no condition, no Go.
-/
import Derived.Test.YtgofngilfdnakaaGreatRefP
namespace Go.Proofs.YtgofngilfdnakaaGreat
open Go

abbrev bb := bytesBefore
theorem bb_trans {a b c : Str} (h : bb a b = true) (k : bb b c = true) : bb a c = true := WideShapes.bytes_trans _ _ _ h k
theorem bb_nil {s : Str} (h : s ≠ []) : bb [] s = true := by
  rcases WideAt.bytes_total [] s (fun e => h e.symm) with h1 | h1
  · exact h1
  · cases s with
    | nil => exact absurd rfl h
    | cons c s => simp [bytesBefore] at h1
theorem bb_le_lt {a b c : Str} (h : bb b a = false) (k : bb b c = true) : bb a c = true := by
  by_cases e : a = b
  · rw [e]; exact k
  · rcases WideAt.bytes_total a b e with h1 | h1
    · exact bb_trans h1 k
    · rw [show bytesBefore b a = bb b a from rfl, h] at h1; cases h1
theorem bb_lt_le {a b c : Str} (h : bb a b = true) (k : bb c b = false) : bb a c = true := by
  by_cases e : b = c
  · rw [← e]; exact h
  · rcases WideAt.bytes_total b c e with h1 | h1
    · exact bb_trans h h1
    · rw [show bytesBefore c b = bb c b from rfl, k] at h1; cases h1
theorem bb_le_le {a b c : Str} (h : bb b a = false) (k : bb c b = false) : bb c a = false := by
  cases hc : bb c a with
  | false => rfl
  | true =>
    have := bb_lt_le hc h
    rw [k] at this; cases this

/-- Not ahead of lo; ahead of hi, if there is one. -/
def above (lo k : Str) : Prop := bb k lo = false
def below : Option Str → Str → Prop
  | none, _ => True
  | some h, k => bb k h = true
theorem below_trans {hi : Option Str} {a b : Str} (h : bb a b = true) (k : below hi b) : below hi a := by
  cases hi with
  | none => trivial
  | some c => exact bb_trans h k
theorem below_le {hi : Option Str} {a b : Str} (h : bb b a = false) (k : below hi b) : below hi a := by
  cases hi with
  | none => trivial
  | some c => exact bb_le_lt h k
theorem above_of {lo k : Str} (h : bb lo k = true) : above lo k := bb_asymm h

/-- Kids with keys between them. -/
def KidsRep (R : Nat → Str → Option Str → Files → Prop) : List Str → List Nat → Str → Option Str → Files → Prop
  | [], [k], lo, hi, M => R k lo hi M
  | s :: ks, k :: kids, lo, hi, M => ∃ M1 M2, M = M1 ++ M2 ∧ bb lo s = true ∧ below hi s ∧ R k lo (some s) M1 ∧ KidsRep R ks kids s hi M2
  | _, _, _, _, _ => False
theorem kr_length {R : Nat → Str → Option Str → Files → Prop} : ∀ {ks : List Str} {kids : List Nat} {lo : Str} {hi : Option Str} {M : Files}, KidsRep R ks kids lo hi M → kids.length = ks.length + 1
  | [], [_], _, _, _, _ => rfl
  | [], [], _, _, _, h => h.elim
  | [], _ :: _ :: _, _, _, _, h => h.elim
  | _ :: _, [], _, _, _, h => h.elim
  | s :: ks, k :: kids, lo, hi, M, h => by
    obtain ⟨M1, M2, _, _, _, _, h2⟩ := h
    simp only [List.length_cons]
    rw [kr_length h2]
theorem kr_mono {R R' : Nat → Str → Option Str → Files → Prop} (hR : ∀ k lo hi M, R k lo hi M → R' k lo hi M) : ∀ {ks : List Str} {kids : List Nat} {lo : Str} {hi : Option Str} {M : Files}, KidsRep R ks kids lo hi M → KidsRep R' ks kids lo hi M
  | [], [_], _, _, _, h => hR _ _ _ _ h
  | [], [], _, _, _, h => h.elim
  | [], _ :: _ :: _, _, _, _, h => h.elim
  | _ :: _, [], _, _, _, h => h.elim
  | s :: ks, k :: kids, lo, hi, M, h => by
    obtain ⟨M1, M2, h1, h2, h3, h4, h5⟩ := h
    exact ⟨M1, M2, h1, h2, h3, hR _ _ _ _ h4, kr_mono hR h5⟩
theorem kr_cut {R : Nat → Str → Option Str → Files → Prop} {s : Str} {C : List Str} {KC : List Nat} : ∀ {A : List Str} {KA : List Nat} {lo : Str} {hi : Option Str} {M : Files}, KidsRep R (A ++ s :: C) (KA ++ KC) lo hi M → KA.length = A.length + 1 →
    ∃ M1 M2, M = M1 ++ M2 ∧ bb lo s = true ∧ below hi s ∧ KidsRep R A KA lo (some s) M1 ∧ KidsRep R C KC s hi M2
  | [], [k], lo, hi, M, h, _ => by
    obtain ⟨M1, M2, h1, h2, h3, h4, h5⟩ := h
    exact ⟨M1, M2, h1, h2, h3, h4, h5⟩
  | [], [], _, _, _, _, hl => by simp at hl
  | [], _ :: _ :: _, _, _, _, _, hl => by simp at hl
  | _ :: _, [], _, _, _, _, hl => by simp at hl
  | a :: A, k :: KA, lo, hi, M, h, hl => by
    obtain ⟨M1, M2, rfl, h2, h3, h4, h5⟩ := h
    obtain ⟨N1, N2, rfl, g2, g3, g4, g5⟩ := kr_cut h5 (by simpa using hl)
    exact ⟨M1 ++ N1, N2, (List.append_assoc _ _ _).symm, bb_trans h2 g2, g3, ⟨M1, N1, rfl, h2, g2, h4, g4⟩, g5⟩
theorem kr_join {R : Nat → Str → Option Str → Files → Prop} {s : Str} {C : List Str} {KC : List Nat} {hi : Option Str} {M2 : Files} (hs : below hi s) (h2 : KidsRep R C KC s hi M2) : ∀ {A : List Str} {KA : List Nat} {lo : Str} {M1 : Files}, bb lo s = true → KidsRep R A KA lo (some s) M1 →
    KidsRep R (A ++ s :: C) (KA ++ KC) lo hi (M1 ++ M2)
  | [], [k], lo, M1, hl, h => ⟨M1, M2, rfl, hl, hs, h, h2⟩
  | [], [], _, _, _, h => h.elim
  | [], _ :: _ :: _, _, _, _, h => h.elim
  | _ :: _, [], _, _, _, h => h.elim
  | a :: A, k :: KA, lo, M1, hl, h => by
    obtain ⟨N1, N2, rfl, g2, g3, g4, g5⟩ := h
    exact ⟨N1, N2 ++ M2, List.append_assoc _ _ _, g2, below_trans g3 hs, g4, kr_join hs h2 g3 g5⟩

def lastOr (lo : Str) (A : List Str) : Str := A.getLastD lo
def headOr (hi : Option Str) : List Str → Option Str
  | [] => hi
  | c :: _ => some c

/-- What each kid gives. -/
structure Bounded (R : Nat → Str → Option Str → Files → Prop) : Prop where
  inb : ∀ {k lo hi M}, R k lo hi M → ∀ y ∈ M, above lo y.1 ∧ below hi y.1
  sorted : ∀ {k lo hi M}, R k lo hi M → Sorted M
theorem kr_inb {R : Nat → Str → Option Str → Files → Prop} (hR : Bounded R) : ∀ {ks : List Str} {kids : List Nat} {lo : Str} {hi : Option Str} {M : Files}, KidsRep R ks kids lo hi M → ∀ y ∈ M, above lo y.1 ∧ below hi y.1
  | [], [_], _, _, _, h => hR.inb h
  | [], [], _, _, _, h => h.elim
  | [], _ :: _ :: _, _, _, _, h => h.elim
  | _ :: _, [], _, _, _, h => h.elim
  | s :: ks, k :: kids, lo, hi, M, h => fun y hy => by
    obtain ⟨M1, M2, rfl, h2, h3, h4, h5⟩ := h
    rcases List.mem_append.1 hy with hy | hy
    · have := hR.inb h4 y hy
      exact ⟨this.1, below_trans this.2 h3⟩
    · have := kr_inb hR h5 y hy
      exact ⟨bb_asymm (bb_lt_le h2 this.1), this.2⟩
theorem kr_sorted {R : Nat → Str → Option Str → Files → Prop} (hR : Bounded R) : ∀ {ks : List Str} {kids : List Nat} {lo : Str} {hi : Option Str} {M : Files}, KidsRep R ks kids lo hi M → Sorted M
  | [], [_], _, _, _, h => hR.sorted h
  | [], [], _, _, _, h => h.elim
  | [], _ :: _ :: _, _, _, _, h => h.elim
  | _ :: _, [], _, _, _, h => h.elim
  | s :: ks, k :: kids, lo, hi, M, h => by
    obtain ⟨M1, M2, rfl, h2, h3, h4, h5⟩ := h
    refine List.pairwise_append.2 ⟨hR.sorted h4, kr_sorted hR h5, fun x hx y hy => ?_⟩
    exact bb_lt_le (hR.inb h4 x hx).2 (kr_inb hR h5 y hy).1
/-- The keys between kids rise, and lie between the bounds. -/
theorem kr_keys {R : Nat → Str → Option Str → Files → Prop} : ∀ {ks : List Str} {kids : List Nat} {lo : Str} {hi : Option Str} {M : Files}, KidsRep R ks kids lo hi M → ks.Pairwise (fun a b => bb a b = true) ∧ ∀ s ∈ ks, bb lo s = true ∧ below hi s
  | [], _, _, _, _, _ => ⟨List.Pairwise.nil, fun _ h => by cases h⟩
  | _ :: _, [], _, _, _, h => h.elim
  | s :: ks, k :: kids, lo, hi, M, h => by
    obtain ⟨M1, M2, rfl, h2, h3, h4, h5⟩ := h
    have ih := kr_keys h5
    refine ⟨List.pairwise_cons.2 ⟨fun b hb => (ih.2 b hb).1, ih.1⟩, fun t ht => ?_⟩
    rcases List.mem_cons.1 ht with rfl | ht
    · exact ⟨h2, h3⟩
    · exact ⟨bb_trans h2 (ih.2 t ht).1, (ih.2 t ht).2⟩

/-- A part of the kids may be laid anew. -/
theorem kr_seg {R : Nat → Str → Option Str → Files → Prop} (hR : Bounded R) {A B C : List Str} {KA KB KC : List Nat} {lo : Str} {hi : Option Str} {M : Files} (h : KidsRep R (A ++ (B ++ C)) (KA ++ (KB ++ KC)) lo hi M) (hA : KA.length = A.length) (hB : KB.length = B.length + 1) :
    ∃ M1 M2 M3, M = M1 ++ (M2 ++ M3) ∧ KidsRep R B KB (lastOr lo A) (headOr hi C) M2 ∧ (∀ k, above (lastOr lo A) k → ∀ y ∈ M1, bb y.1 k = true) ∧ (∀ k, below (headOr hi C) k → ∀ y ∈ M3, bb k y.1 = true) ∧
      ∀ (R' : Nat → Str → Option Str → Files → Prop), (∀ k lo hi M, R k lo hi M → R' k lo hi M) → ∀ B' KB' M2', KidsRep R' B' KB' (lastOr lo A) (headOr hi C) M2' → KidsRep R' (A ++ (B' ++ C)) (KA ++ (KB' ++ KC)) lo hi (M1 ++ (M2' ++ M3)) := by
  have right : ∀ (l : Str) (N : Files), KidsRep R (B ++ C) (KB ++ KC) l hi N → ∃ M2 M3, N = M2 ++ M3 ∧ KidsRep R B KB l (headOr hi C) M2 ∧ (∀ k, below (headOr hi C) k → ∀ y ∈ M3, bb k y.1 = true) ∧
      ∀ (R' : Nat → Str → Option Str → Files → Prop), (∀ k lo hi M, R k lo hi M → R' k lo hi M) → ∀ B' KB' M2', KidsRep R' B' KB' l (headOr hi C) M2' → KidsRep R' (B' ++ C) (KB' ++ KC) l hi (M2' ++ M3) := by
    intro l N hN
    cases C with
    | nil =>
      have hl := kr_length hN
      have hk : KC = [] := by
        simp only [List.append_nil, List.length_append] at hl
        exact List.eq_nil_of_length_eq_zero (by omega)
      subst hk
      rw [List.append_nil, List.append_nil] at hN
      exact ⟨N, [], (List.append_nil _).symm, hN, (fun _ _ _ hy => by cases hy), (fun R' _ B' KB' M2' h' => by rw [List.append_nil, List.append_nil, List.append_nil]; exact h')⟩
    | cons c C =>
      obtain ⟨M2, M3, h1, h2, h3, h4, h5⟩ := kr_cut hN hB
      exact ⟨M2, M3, h1, h4, fun k hk y hy => bb_lt_le hk (kr_inb hR h5 y hy).1, fun R' hm B' KB' M2' h' => kr_join h3 (kr_mono hm h5) h2 h'⟩
  rcases List.eq_nil_or_concat A with rfl | ⟨A', a, rfl⟩
  · have hk : KA = [] := List.eq_nil_of_length_eq_zero (by simpa using hA)
    subst hk
    obtain ⟨M2, M3, h1, h2, h3, h4⟩ := right lo M h
    exact ⟨[], M2, M3, h1, h2, (fun _ _ _ hy => by cases hy), h3, fun R' hm B' KB' M2' h' => h4 R' hm B' KB' M2' h'⟩
  · have hlast : lastOr lo (A' ++ [a]) = a := by simp [lastOr]
    rw [List.concat_eq_append] at h hA ⊢
    rw [hlast]
    rw [List.append_assoc, List.singleton_append] at h
    obtain ⟨M1, Mr, rfl, g1, g2, g3, g4⟩ := kr_cut h (by rw [hA]; simp)
    obtain ⟨M2, M3, rfl, h2, h3, h4⟩ := right a Mr g4
    refine ⟨M1, M2, M3, rfl, h2, fun k hk y hy => bb_lt_le (kr_inb hR g3 y hy).2 hk, h3, fun R' hm B' KB' M2' h' => ?_⟩
    rw [List.append_assoc, List.singleton_append]
    exact kr_join g2 (h4 R' hm B' KB' M2' h') g1 (kr_mono hm g3)

/-! ### files in the midst of others -/
theorem get_mid {M1 M2 M3 : Files} {k : Str} (h1 : ∀ y ∈ M1, bb y.1 k = true) (h3 : ∀ y ∈ M3, bb k y.1 = true) : Files.get (M1 ++ (M2 ++ M3)) k = M2.get k := by
  unfold Files.get
  rw [List.find?_append, List.find?_append]
  have e1 : M1.find? (fun p => p.1 == k) = none := List.find?_eq_none.2 fun y hy => by simpa using bb_ne (h1 y hy)
  have e3 : M3.find? (fun p => p.1 == k) = none := List.find?_eq_none.2 fun y hy => by simpa using fun e => bb_ne (h3 y hy) e.symm
  rw [e1, e3]
  simp
theorem del_mid {M1 M2 M3 : Files} {k : Str} (h1 : ∀ y ∈ M1, bb y.1 k = true) (h3 : ∀ y ∈ M3, bb k y.1 = true) : Files.del (M1 ++ (M2 ++ M3)) k = M1 ++ (M2.del k ++ M3) := by
  have e1 := del_none (F := M1) (k := k) fun y hy => bb_ne (h1 y hy)
  have e3 := del_none (F := M3) (k := k) fun y hy e => bb_ne (h3 y hy) e.symm
  unfold Files.del at *
  rw [List.filter_append, List.filter_append, e1, e3]
theorem ins_front {x : Str × Str} : ∀ {M : Files} {N : Files}, (∀ y ∈ N, bb x.1 y.1 = true) → Files.ins x (M ++ N) = Files.ins x M ++ N
  | [], [], _ => rfl
  | [], y :: N, h => by
    show Files.ins x (y :: N) = x :: y :: N
    rw [Files.ins, if_pos (h y List.mem_cons_self)]
  | z :: M, N, h => by
    show Files.ins x (z :: (M ++ N)) = Files.ins x (z :: M) ++ N
    rw [Files.ins, Files.ins]
    split
    · rfl
    · rw [ins_front h]; rfl
theorem ins_back {x : Str × Str} {N : Files} : ∀ {M : Files}, (∀ y ∈ M, bb y.1 x.1 = true) → Files.ins x (M ++ N) = M ++ Files.ins x N
  | [], _ => rfl
  | z :: M, h => by
    show Files.ins x (z :: (M ++ N)) = z :: (M ++ Files.ins x N)
    rw [Files.ins, if_neg (by rw [bb_asymm (h z List.mem_cons_self)]; decide), ins_back (fun y hy => h y (List.mem_cons_of_mem _ hy))]
theorem put_mid {M1 M2 M3 : Files} {k v : Str} (h1 : ∀ y ∈ M1, bb y.1 k = true) (h3 : ∀ y ∈ M3, bb k y.1 = true) : Files.put (M1 ++ (M2 ++ M3)) k v = M1 ++ (M2.put k v ++ M3) := by
  unfold Files.put
  rw [del_mid h1 h3, ins_back h1, ins_front h3]

/-! ### pages -/
structure Pg where
  leaf : Bool
  keys : List Str
  vals : List Str
  kids : List Nat
def keyOk (s : Str) : Prop := 1 ≤ s.length ∧ s.length ≤ 64
/-- A kid's page: at a place that is not too great, with keys enough. -/
def KidOk (rd : Nat → Pg → Prop) (P : Pg → Str → Option Str → Files → Prop) (m : Nat) (k : Nat) (lo : Str) (hi : Option Str) (M : Files) : Prop := k ≤ 2147483647 ∧ ∃ q, rd k q ∧ m ≤ q.keys.length ∧ q.keys.length ≤ 8 ∧ P q lo hi M
/-- A page of a depth has these keys, with all below it. -/
def RepP (rd : Nat → Pg → Prop) : Nat → Pg → Str → Option Str → Files → Prop
  | 0, p, lo, hi, M => p.leaf = true ∧ p.kids = [] ∧ p.keys = M.map (·.1) ∧ p.vals = M.map (·.2) ∧ Sorted M ∧ ∀ y ∈ M, above lo y.1 ∧ below hi y.1 ∧ keyOk y.1 ∧ y.2.length ≤ 8192
  | d + 1, p, lo, hi, M => p.leaf = false ∧ p.vals = [] ∧ (∀ s ∈ p.keys, keyOk s) ∧ KidsRep (KidOk rd (RepP rd d) 4) p.keys p.kids lo hi M
def Rep (rd : Nat → Pg → Prop) (m d : Nat) : Nat → Str → Option Str → Files → Prop := KidOk rd (RepP rd d) m
theorem rep_node (rd : Nat → Pg → Prop) (d : Nat) (p : Pg) (lo : Str) (hi : Option Str) (M : Files) : RepP rd (d + 1) p lo hi M = (p.leaf = false ∧ p.vals = [] ∧ (∀ s ∈ p.keys, keyOk s) ∧ KidsRep (Rep rd 4 d) p.keys p.kids lo hi M) := rfl
theorem repP_bounded (rd : Nat → Pg → Prop) : ∀ (d m : Nat), Bounded (Rep rd m d)
  | 0, m => ⟨fun h y hy => by obtain ⟨_, q, _, _, _, h⟩ := h; exact ⟨(h.2.2.2.2.2 y hy).1, (h.2.2.2.2.2 y hy).2.1⟩, fun h => by obtain ⟨_, q, _, _, _, h⟩ := h; exact h.2.2.2.2.1⟩
  | d + 1, m => ⟨fun h y hy => by obtain ⟨_, q, _, _, _, h⟩ := h; exact kr_inb (repP_bounded rd d 4) h.2.2.2 y hy, fun h => by obtain ⟨_, q, _, _, _, h⟩ := h; exact kr_sorted (repP_bounded rd d 4) h.2.2.2⟩
theorem repP_inb {rd : Nat → Pg → Prop} : ∀ {d : Nat} {p : Pg} {lo : Str} {hi : Option Str} {M : Files}, RepP rd d p lo hi M → ∀ y ∈ M, above lo y.1 ∧ below hi y.1
  | 0, _, _, _, _, h => fun y hy => ⟨(h.2.2.2.2.2 y hy).1, (h.2.2.2.2.2 y hy).2.1⟩
  | d + 1, _, _, _, _, h => kr_inb (repP_bounded rd d 4) h.2.2.2
theorem repP_sorted {rd : Nat → Pg → Prop} : ∀ {d : Nat} {p : Pg} {lo : Str} {hi : Option Str} {M : Files}, RepP rd d p lo hi M → Sorted M
  | 0, _, _, _, _, h => h.2.2.2.2.1
  | d + 1, _, _, _, _, h => kr_sorted (repP_bounded rd d 4) h.2.2.2
theorem repP_mono {rd rd' : Nat → Pg → Prop} (hr : ∀ k q, rd k q → rd' k q) : ∀ {d : Nat} {p : Pg} {lo : Str} {hi : Option Str} {M : Files}, RepP rd d p lo hi M → RepP rd' d p lo hi M
  | 0, _, _, _, _, h => h
  | _ + 1, _, _, _, _, h => ⟨h.1, h.2.1, h.2.2.1, kr_mono (fun k _ _ _ ⟨h1, q, h2, h3, h4, h5⟩ => ⟨h1, q, hr k q h2, h3, h4, repP_mono hr h5⟩) h.2.2.2⟩
theorem rep_mono {rd rd' : Nat → Pg → Prop} (hr : ∀ k q, rd k q → rd' k q) {m d k : Nat} {lo : Str} {hi : Option Str} {M : Files} (h : Rep rd m d k lo hi M) : Rep rd' m d k lo hi M := by
  obtain ⟨h1, q, h2, h3, h4, h5⟩ := h
  exact ⟨h1, q, hr k q h2, h3, h4, repP_mono hr h5⟩
theorem rep_less {rd : Nat → Pg → Prop} {m m' d k : Nat} {lo : Str} {hi : Option Str} {M : Files} (hm : m' ≤ m) (h : Rep rd m d k lo hi M) : Rep rd m' d k lo hi M := by
  obtain ⟨h1, q, h2, h3, h4, h5⟩ := h
  exact ⟨h1, q, h2, by omega, h4, h5⟩

/-- How many keys there are at least. -/
theorem kr_many {R : Nat → Str → Option Str → Files → Prop} {n : Nat} (hR : ∀ {k lo hi M}, R k lo hi M → n ≤ M.length) : ∀ {ks : List Str} {kids : List Nat} {lo : Str} {hi : Option Str} {M : Files}, KidsRep R ks kids lo hi M → (ks.length + 1) * n ≤ M.length
  | [], [_], _, _, _, h => by have := hR h; simpa using this
  | [], [], _, _, _, h => h.elim
  | [], _ :: _ :: _, _, _, _, h => h.elim
  | _ :: _, [], _, _, _, h => h.elim
  | s :: ks, k :: kids, lo, hi, M, h => by
    obtain ⟨M1, M2, rfl, h2, h3, h4, h5⟩ := h
    have i1 := hR h4
    have i2 := kr_many hR h5
    rw [List.length_append, List.length_cons, Nat.add_mul (ks.length + 1) 1 n, Nat.one_mul]
    omega
theorem repP_many {rd : Nat → Pg → Prop} : ∀ {d : Nat} {p : Pg} {lo : Str} {hi : Option Str} {M : Files}, RepP rd d p lo hi M → 4 ≤ p.keys.length → 4 ^ (d + 1) ≤ M.length
  | 0, p, _, _, M, h, hk => by
    rw [h.2.2.1, List.length_map] at hk
    simpa using hk
  | d + 1, p, _, _, M, h, hk => by
    have h1 := kr_many (n := 4 ^ (d + 1)) (fun {k lo hi M} (h : KidOk rd (RepP rd d) 4 k lo hi M) => by obtain ⟨_, q, _, h3, _, h5⟩ := h; exact repP_many h5 h3) h.2.2.2
    have h2 : 4 * 4 ^ (d + 1) ≤ (p.keys.length + 1) * 4 ^ (d + 1) := Nat.mul_le_mul_right _ (by omega)
    rw [Nat.pow_succ 4 (d + 1), Nat.mul_comm]
    omega
/-- A tree with few keys is not deep. -/
theorem repP_shallow {rd : Nat → Pg → Prop} {d : Nat} {p : Pg} {lo : Str} {hi : Option Str} {M : Files} (h : RepP rd d p lo hi M) (hk : 1 ≤ p.keys.length) (hM : M.length ≤ 2700) : d ≤ 5 := by
  cases d with
  | zero => omega
  | succ d =>
    have h1 := kr_many (n := 4 ^ (d + 1)) (fun {k lo hi M} (h : KidOk rd (RepP rd d) 4 k lo hi M) => by obtain ⟨_, q, _, h3, _, h5⟩ := h; exact repP_many h5 h3) h.2.2.2
    have h2 : 2 * 4 ^ (d + 1) ≤ (p.keys.length + 1) * 4 ^ (d + 1) := Nat.mul_le_mul_right _ (by omega)
    apply Classical.byContradiction
    intro hd
    have h3 : 4 ^ 6 ≤ 4 ^ (d + 1) := Nat.pow_le_pow_right (by omega) (by omega)
    simp at h3
    omega
theorem repP_some {rd : Nat → Pg → Prop} {d : Nat} {p : Pg} {lo : Str} {hi : Option Str} {M : Files} (h : RepP rd d p lo hi M) (hk : 1 ≤ p.keys.length) : M ≠ [] := by
  intro e
  subst e
  cases d with
  | zero =>
    rw [h.2.2.1] at hk
    simp at hk
  | succ d =>
    have h1 := kr_many (n := 4 ^ (d + 1)) (fun {k lo hi M} (h : KidOk rd (RepP rd d) 4 k lo hi M) => by obtain ⟨_, q, _, h3, _, h5⟩ := h; exact repP_many h5 h3) h.2.2.2
    have h3 : 1 ≤ 4 ^ (d + 1) := Nat.pow_pos (by omega)
    have h2 : 1 * 1 ≤ (p.keys.length + 1) * 4 ^ (d + 1) := Nat.mul_le_mul (by omega) h3
    simp at h1 h2
    omega

end Go.Proofs.YtgofngilfdnakaaGreat
