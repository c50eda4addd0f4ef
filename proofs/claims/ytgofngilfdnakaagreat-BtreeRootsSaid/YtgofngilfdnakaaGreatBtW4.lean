/-
  This text proves what the library's Insert, Delete, Concat and the package page's Find and Kid do with rows of texts and of numbers: under bounds on lengths.
-/
import Derived.Test.YtgofngilfdnakaaGreatSlS
import Derived.Test.YtgofngilfdnakaaGreatInsP
import Derived.Test.YtgofngilfdnakaaGreatDelP
import Derived.Test.YtgofngilfdnakaaGreatBtW2
namespace Go.Proofs.YtgofngilfdnakaaGreat
open Go Go.RowKit
attribute [local go_sem] over_cell over_frozen lt_over le_over noB loudUpon ByteArray.mk_append_mk ByteArray.extract_mk

theorem infoS1 : ∃ i, Tryz.prog.info? 9 = some i ∧ i.zero = some (.string ⟨#[]⟩) ∧ i.size = 1 ∧ i.bytes = 16 := by
  have h : (Tryz.prog.info? 9).map (fun i => (i.zero, i.size, i.bytes)) = some (some (.string ⟨#[]⟩), 1, 16) := by kernel_rfl
  cases hi : Tryz.prog.info? 9 with
  | none => rw [hi] at h; cases h
  | some i =>
    rw [hi] at h
    simp only [Option.map_some, Option.some.injEq, Prod.mk.injEq] at h
    exact ⟨i, rfl, h.1, h.2.1, h.2.2⟩
theorem infoI1 : ∃ i, Tryz.prog.info? 3 = some i ∧ i.zero = some (.int .i64 0) ∧ i.size = 1 ∧ i.bytes = 8 := by
  have h : (Tryz.prog.info? 3).map (fun i => (i.zero, i.size, i.bytes)) = some (some (.int .i64 0), 1, 8) := by kernel_rfl
  cases hi : Tryz.prog.info? 3 with
  | none => rw [hi] at h; cases h
  | some i =>
    rw [hi] at h
    simp only [Option.map_some, Option.some.injEq, Prod.mk.injEq] at h
    exact ⟨i, rfl, h.1, h.2.1, h.2.2⟩
theorem one_txt (l : List Str) : ∀ u ∈ l.map txt, u.oneCell' = true := fun u hu => by
  obtain ⟨s, _, rfl⟩ := List.mem_map.1 hu
  rfl
theorem one_num (l : List Nat) : ∀ u ∈ l.map numV, u.oneCell' = true := fun u hu => by
  obtain ⟨s, _, rfl⟩ := List.mem_map.1 hu
  rfl
theorem map_ins {α : Type} (f : α → Value) (l : List α) (i : Nat) (x : α) : (l.map f).take i ++ f x :: (l.map f).drop i = (insL l i x).map f := by
  unfold insL
  rw [List.map_append, List.map_cons, List.map_take, List.map_drop]

theorem InsertS_calls {base i vb : Nat} {v : Value} {l : List Str} {w : World} (x : Str) (h : w.ownsRow base 9 1 v l.length (l.map txt)) (hi : i ≤ l.length) (hn : l.length ≤ 100000) (hb : base ≤ w.heap.size)
    (hx : w.heap[vb]? = some (.cells #[txt x] 9 (0, 0))) (hvb : v.ownBlock ≠ some vb) :
    Calls Tryz.prog 142 #[v, .int .i64 i, .slice (some ⟨vb, 0, none⟩) 1 1] w (InsPost base 9 v l.length ((insL l i x).map txt) w) := by
  have := own_insert_string Tryz.insS h hi hn hb hx hvb (one_txt l) rfl
  rw [map_ins] at this
  exact this
theorem InsertI_calls {base i vb : Nat} {v : Value} {l : List Nat} {w : World} (x : Nat) (h : w.ownsRow base 3 1 v l.length (l.map numV)) (hi : i ≤ l.length) (hn : l.length ≤ 100000) (hb : base ≤ w.heap.size)
    (hx : w.heap[vb]? = some (.cells #[numV x] 3 (0, 0))) (hvb : v.ownBlock ≠ some vb) :
    Calls Tryz.prog 144 #[v, .int .i64 i, .slice (some ⟨vb, 0, none⟩) 1 1] w (InsPost base 3 v l.length ((insL l i x).map numV) w) := by
  have := own_insert_int Tryz.insI h hi hn hb hx hvb (one_num l) rfl
  rw [map_ins] at this
  exact this
theorem DeleteS_calls {base i : Nat} {v : Value} {l : List Str} {w : World} (h : w.ownsRow base 9 1 v l.length (l.map txt)) (hi : i < l.length) (hn : l.length ≤ 100000) :
    Calls Tryz.prog 146 #[v, .int .i64 i, .int .i64 ((i : Int) + 1)] w (DelPost base 9 v l.length ((l.eraseIdx i).map txt) w) := by
  obtain ⟨i0, h0, _, h2, _⟩ := infoS1
  exact own_delete (α := Str) Tryz.delS txt (fun _ => rfl) [] Tryz.zeroValue9 h0 h2 h hi hn
theorem DeleteI_calls {base i : Nat} {v : Value} {l : List Nat} {w : World} (h : w.ownsRow base 3 1 v l.length (l.map numV)) (hi : i < l.length) (hn : l.length ≤ 100000) :
    Calls Tryz.prog 172 #[v, .int .i64 i, .int .i64 ((i : Int) + 1)] w (DelPost base 3 v l.length ((l.eraseIdx i).map numV) w) := by
  obtain ⟨i0, h0, _, h2, _⟩ := infoI1
  exact own_delete (α := Nat) Tryz.delI numV (fun _ => rfl) 0 Tryz.zeroValue3 h0 h2 h hi hn
theorem Search_calls {w : World} {v : Value} {ks : List Str} (h : In1 w v (ks.map txt)) (hs : ks.Pairwise fun a b => bb a b = true) (hn : ks.length ≤ 1000) (key : Str) :
    Calls Tryz.prog 145 #[v, .string ⟨key.toArray⟩] w fun e w' => e = .returned (.tuple #[.int .i64 (kFind ks key), .bool (kIs ks key)]) ∧ Mod NoB w w' :=
  search_calls Tryz.srchS h hs hn key

set_option maxHeartbeats 800000 in
theorem Find_calls (p : Pg) (kv vv cv : Value) (key : Str) (w : World) (h : PgIn w kv vv cv p) (hp : pgOk p) :
    Calls Tryz.prog 106 #[pageV p kv vv cv, .string ⟨key.toArray⟩] w fun e w' => e = .returned (.tuple #[.int .i64 (kFind p.keys key), .bool (kIs p.keys key)]) ∧ Mod NoB w w' := by
  have HS := Lib.hid (fun X (hX : Mod NoB w X) => Search_calls (h.k.mod hX) hp.1 (by have := hp.2.2.1; omega) key)
  clear h hp
  go_enter Tryz.func106, Tryz.ntmps106
  go_wp2_with fail
  refine (HS.out _ (by (repeat (first | with_reducible exact Mod.refl _ _ | with_reducible refine Mod.drew ?_ | with_reducible refine Mod.alloc ?_ _)))).mono ?_
  rintro e w' ⟨rfl, hm⟩
  have HM := Lib.hid hm
  clear hm
  go_wp2_with fail
  go_ret2
  exact ⟨rfl, (show Mod NoB w _ from (by (repeat (first | with_reducible exact Mod.refl _ _ | with_reducible refine Mod.drew ?_ | with_reducible refine Mod.alloc ?_ _)))).trans HM.out (fun _ _ h => h)⟩
set_option maxHeartbeats 800000 in
theorem Kid_calls (p : Pg) (kv vv cv : Value) (key : Str) (w : World) (h : PgIn w kv vv cv p) (hp : pgOk p) :
    Calls Tryz.prog 107 #[pageV p kv vv cv, .string ⟨key.toArray⟩] w fun e w' => e = .returned (.int .i64 (kKid p.keys key)) ∧ Mod NoB w w' := by
  have HS := Lib.hid (fun X (hX : Mod NoB w X) => Find_calls p kv vv cv key X (h.mod hX) hp)
  have hle := kFind_le p.keys key
  have h8 := hp.2.2.1
  clear h hp
  unfold kKid
  cases hi : kIs p.keys key with
  | true =>
    rw [hi] at HS
    generalize kFind p.keys key = n at *
    clear hi
    go_enter Tryz.func107, Tryz.ntmps107
    go_wp2_with fail
    refine (HS.out _ (by (repeat (first | with_reducible exact Mod.refl _ _ | with_reducible refine Mod.drew ?_ | with_reducible refine Mod.alloc ?_ _)))).mono ?_
    rintro e w' ⟨rfl, hm⟩
    have HM := Lib.hid hm
    clear hm
    go_wp2_with fail
    go_ret
    exact ⟨rfl, (show Mod NoB w _ from (by (repeat (first | with_reducible exact Mod.refl _ _ | with_reducible refine Mod.drew ?_ | with_reducible refine Mod.alloc ?_ _)))).trans HM.out (fun _ _ h => h)⟩
  | false =>
    rw [hi] at HS
    generalize kFind p.keys key = n at *
    clear hi
    go_enter Tryz.func107, Tryz.ntmps107
    go_wp2_with fail
    refine (HS.out _ (by (repeat (first | with_reducible exact Mod.refl _ _ | with_reducible refine Mod.drew ?_ | with_reducible refine Mod.alloc ?_ _)))).mono ?_
    rintro e w' ⟨rfl, hm⟩
    have HM := Lib.hid hm
    clear hm
    go_wp2_with fail
    go_ret
    exact ⟨rfl, (show Mod NoB w _ from (by (repeat (first | with_reducible exact Mod.refl _ _ | with_reducible refine Mod.drew ?_ | with_reducible refine Mod.alloc ?_ _)))).trans HM.out (fun _ _ h => h)⟩

/-! ### one behind the other -/
theorem src_in {P : Program} {w : World} {v : Value} {xs : List Value} {t e : TypeId} (h : In1 w v xs) (h1 : ∀ u ∈ xs, u.oneCell' = true) (ht : P.underlying t = some (.slice e)) : Src P 1 t v xs.length xs w := by
  obtain ⟨a, cap, rfl, hc, hm, hcell⟩ := h
  cases a with
  | none =>
    have h0 : xs = [] := by
      cases xs with
      | nil => rfl
      | cons x xs =>
        obtain ⟨b, o, e, _⟩ := hcell 0 (by simp)
        cases e
    subst h0
    exact Src.ofNil w ht cap
  | some ad =>
    refine Src.ofSlice w ht ad xs.length cap xs (by omega) (fun j u hj => ?_) h1
    obtain ⟨hj', rfl⟩ := List.getElem?_eq_some_iff.1 hj
    obtain ⟨b, o, e, _, hc2⟩ := hcell j hj'
    cases e
    rw [Addr.add_mid]
    exact hc2
/-- Rows in a row. -/
structure Rows1 (w : World) (g : Nat) (T : TypeId) (vs : List Value) (xss : List (List Value)) : Prop where
  at_ : w.heap[g]? = some (.cells vs.toArray T (0, 0))
  len : vs.length = xss.length
  each : ∀ i (h : i < vs.length) (h' : i < xss.length), In1 w vs[i] xss[i]
  one : ∀ xs ∈ xss, ∀ u ∈ xs, u.oneCell' = true
def flat1 (xss : List (List Value)) : List Value := xss.flatten
theorem flat_len_take : ∀ (xss : List (List Value)) (k : Nat), (flat1 (xss.take k)).length ≤ (flat1 xss).length
  | [], k => by simp [flat1]
  | x :: xss, 0 => by simp [flat1]
  | x :: xss, k + 1 => by
    have := flat_len_take xss k
    unfold flat1 at *
    simp only [List.take_succ_cons, List.flatten_cons, List.length_append]
    omega
theorem flat_succ (xss : List (List Value)) (k : Nat) (h : k < xss.length) : (flat1 (xss.take (k + 1))) = (flat1 (xss.take k)) ++ xss[k] := by
  unfold flat1
  rw [List.take_succ_eq_append_getElem h, List.flatten_append]
  simp

theorem GrowS_calls (n : Nat) (w : World) (hn : n ≤ 100000) :
    Calls Tryz.prog 184 #[.slice none 0 0, .int .i64 n] w fun e w' => ∃ a c, e = .returned (.slice a 0 c) ∧ w'.ownsRow w.heap.size 9 1 (.slice a 0 c) 0 [] ∧ Mod NoB w w' := by
  obtain ⟨i, hi, hz, h1, hb⟩ := infoS1
  rcases Nat.eq_zero_or_pos n with h0 | h0
  · subst h0
    refine (Any8.slices_Grow_room Tryz.growS none 0 0 0 w (by omega) (by omega) (by omega) (by omega)).mono ?_
    rintro e w' ⟨rfl, rfl⟩
    exact ⟨_, _, rfl, World.ownsRow_nil _ _ _ _, Mod.refl _ _⟩
  · refine (Any8.slices_Grow_grow Tryz.growS i _ hi hz (by omega) none 0 0 n [] w (by omega) (by omega) (by rw [hb]; omega) (by omega) (by simp) (fun _ => rfl) (fun a ha => by cases ha)).mono ?_
    rintro e w' ⟨rfl, rfl⟩
    refine ⟨_, _, rfl, own_mk (Nat.le_refl _) (heap_alloc_new w.drew _) ?_ (by omega) (grownCap_le_maxLen _ _ _ _ (by rw [maxLenIs]; omega)) (by simp), ((Mod.refl _ _).drew.alloc _)⟩
    have := grownCap_ge w (0 + n) 0 9
    simp only [Array.size_append, List.size_toArray, List.length_nil, size_zeroCells]
    have hz1 : (Value.string ⟨#[]⟩).cells.size = 1 := rfl
    rw [hz1]
    show 0 + (0 + n - 0) * 1 + (grownCap w (0 + n) 0 9 - (0 + n)) * 1 = grownCap w (0 + n) 0 9
    omega

theorem GrowI_calls (n : Nat) (w : World) (hn : n ≤ 100000) :
    Calls Tryz.prog 185 #[.slice none 0 0, .int .i64 n] w fun e w' => ∃ a c, e = .returned (.slice a 0 c) ∧ w'.ownsRow w.heap.size 3 1 (.slice a 0 c) 0 [] ∧ Mod NoB w w' := by
  obtain ⟨i, hi, hz, h1, hb⟩ := infoI1
  rcases Nat.eq_zero_or_pos n with h0 | h0
  · subst h0
    refine (Any8.slices_Grow_room Tryz.growI none 0 0 0 w (by omega) (by omega) (by omega) (by omega)).mono ?_
    rintro e w' ⟨rfl, rfl⟩
    exact ⟨_, _, rfl, World.ownsRow_nil _ _ _ _, Mod.refl _ _⟩
  · refine (Any8.slices_Grow_grow Tryz.growI i _ hi hz (by omega) none 0 0 n [] w (by omega) (by omega) (by rw [hb]; omega) (by omega) (by simp) (fun _ => rfl) (fun a ha => by cases ha)).mono ?_
    rintro e w' ⟨rfl, rfl⟩
    refine ⟨_, _, rfl, own_mk (Nat.le_refl _) (heap_alloc_new w.drew _) ?_ (by omega) (grownCap_le_maxLen _ _ _ _ (by rw [maxLenIs]; omega)) (by simp), ((Mod.refl _ _).drew.alloc _)⟩
    have := grownCap_ge w (0 + n) 0 3
    simp only [Array.size_append, List.size_toArray, List.length_nil, size_zeroCells]
    have hz1 : (Value.int .i64 0).cells.size = 1 := rfl
    rw [hz1]
    show 0 + (0 + n - 0) * 1 + (grownCap w (0 + n) 0 3 - (0 + n)) * 1 = grownCap w (0 + n) 0 3
    omega

end Go.Proofs.YtgofngilfdnakaaGreat
