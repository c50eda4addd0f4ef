/-
  This text proves, out of the library's contract for slices.BinarySearch: where a key stands among texts that rise; under a bound on their number; at whatever program in which the library's function stands.
-/
import Derived.Test.YtgofngilfdnakaaGreatRow
import Derived.Test.YtgofngilfdnakaaGreatBtP2
import Derived.Shelf.Spec.SearchS
namespace Go.Proofs.YtgofngilfdnakaaGreat
open Go Go.RowKit Go.Shelf
variable {P : Program} {ρ : Ren}

abbrev txt (s : Str) : Value := .string ⟨s.toArray⟩
theorem bless6 : ∀ a b : Str, Op.bytesLess a b = bytesBefore a b
  | [], [] => rfl
  | [], _ :: _ => rfl
  | _ :: _, [] => rfl
  | a :: x, b :: y => by
    simp only [Op.bytesLess, bytesBefore, bless6 x y]
theorem kFind_less {ks : List Str} {key : Str} (hs : ks.Pairwise fun a b => bb a b = true) (t : Nat) (x : Str) (h : ks[t]? = some x) : bb x key = decide (t < kFind ks key) := by
  induction ks generalizing t with
  | nil => simp at h
  | cons s ks ih =>
    have hp := List.pairwise_cons.1 hs
    unfold kFind
    rw [List.takeWhile_cons]
    cases hsk : bb s key with
    | true =>
      rw [if_pos rfl, List.length_cons]
      cases t with
      | zero =>
        simp only [List.getElem?_cons_zero, Option.some.injEq] at h
        subst h
        rw [hsk]
        simp
      | succ t =>
        rw [List.getElem?_cons_succ] at h
        rw [ih hp.2 t h]
        unfold kFind
        congr 1
        exact propext ⟨fun h => by omega, fun h => by omega⟩
    | false =>
      rw [if_neg (by decide), List.length_nil]
      cases t with
      | zero =>
        simp only [List.getElem?_cons_zero, Option.some.injEq] at h
        subst h
        rw [hsk]
        simp
      | succ t =>
        rw [List.getElem?_cons_succ] at h
        have hx := hp.1 x (List.mem_of_getElem? h)
        have : bb x key = false := by
          cases hc : bb x key with
          | false => rfl
          | true =>
            have := bb_trans hx hc
            rw [hsk] at this; cases this
        rw [this]
        simp
theorem search_calls (L : Lays2.n26 P ρ) {w : World} {v : Value} {ks : List Str} (h : In1 w v (ks.map txt)) (hs : ks.Pairwise fun a b => bb a b = true) (hn : ks.length ≤ 1000) (key : Str) :
    Calls P (ρ.f 26) #[v, .string ⟨key.toArray⟩] w fun e w' => e = .returned (.tuple #[.int .i64 (kFind ks key), .bool (kIs ks key)]) ∧ Mod NoB w w' := by
  by_cases h0 : ks.length = 0
  · have hk : ks = [] := List.eq_nil_of_length_eq_zero h0
    subst hk
    obtain ⟨a, cap, rfl, _⟩ := h
    refine (Any2.slices_BinarySearch_string_empty L a cap _ w).mono ?_
    rintro e w' ⟨rfl, rfl⟩
    exact ⟨rfl, Mod.refl _ _⟩
  · obtain ⟨b, o, cap, rfl, hc, hm, hb⟩ := h.at (by rw [List.length_map]; omega)
    rw [List.length_map] at h ⊢
    have hcell : ∀ j, j < ks.length → w.cell? ⟨b, o + j, none⟩ = some (.string ((fun t => (⟨((ks[t]?).getD key).toArray⟩ : ByteArray)) j)) := fun j hj => by
      have := (h.cell j (by rw [List.length_map]; exact hj)).2
      rw [this, List.getElem_map]
      simp [List.getElem?_eq_getElem hj]
    refine (Any2.slices_BinarySearch_string L b o ks.length cap _ ⟨key.toArray⟩ w (by omega) hcell).mono ?_
    rintro e w' ⟨rfl, q, rfl⟩
    have hle := kFind_le ks key
    have less : ∀ t, (Op.bytesLess (ByteArray.toList ⟨((ks[t]?).getD key).toArray⟩) (ByteArray.toList ⟨key.toArray⟩)) = decide (t < kFind ks key) := fun t => by
      rw [ByteArray.toList_eq, ByteArray.toList_eq, bless6]
      cases ht : ks[t]? with
      | none =>
        have := List.getElem?_eq_none_iff.1 ht
        have e1 : decide (t < kFind ks key) = false := by simp; omega
        rw [e1]
        cases hc : bytesBefore key key with
        | false => simpa using hc
        | true => exact absurd rfl (bb_ne hc)
      | some x =>
        have := kFind_less (key := key) hs t x ht
        simpa using this
    have hgo : Lib.bsGo (fun t => Op.bytesLess (ByteArray.toList ⟨((ks[t]?).getD key).toArray⟩) (ByteArray.toList ⟨key.toArray⟩)) ks.length 0 ks.length = kFind ks key :=
      Lib.bsGo_spec _ (kFind ks key) (fun t ht => by rw [less]; simpa using ht) (fun t ht => by rw [less]; simp; omega) _ _ _ (by omega) (by omega) hle
    refine ⟨?_, (Mod.refl _ _).drewN q⟩
    rw [hgo]
    have e2 : decide (kFind ks key < ks.length ∧ (⟨((ks[kFind ks key]?).getD key).toArray⟩ : ByteArray) = ⟨key.toArray⟩) = kIs ks key := by
      unfold kIs
      cases hk : ks[kFind ks key]? with
      | none =>
        have := List.getElem?_eq_none_iff.1 hk
        simp
        omega
      | some x =>
        have := (List.getElem?_eq_some_iff.1 hk).1
        by_cases hx : x = key <;> simp [hx, this]
    rw [e2]

end Go.Proofs.YtgofngilfdnakaaGreat
