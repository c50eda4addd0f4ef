/-
  This text proves what the package page's functions do with pages that may be: under bounds on numbers and lengths.
-/
import Derived.Test.YtgofngilfdnakaaGreatBtW1
import Derived.Test.YtgofngilfdnakaaGreatFindP
import Derived.Test.YtgofngilfdnakaaGreatPageP
import Derived.Test.YtgofngilfdnakaaGreatDiskA
namespace Go.Proofs.YtgofngilfdnakaaGreat
open Go Go.RowKit
attribute [local go_sem] over_cell over_frozen lt_over le_over noB loudUpon ByteArray.mk_append_mk ByteArray.extract_mk

set_option maxRecDepth 100000 in
set_option maxHeartbeats 800000 in
theorem rising_calls (v : Value) (ks : List Str) (w : World) (h : In1 w v (ks.map txt)) (hp : ks.Pairwise fun a b => bb a b = true) (hk : ∀ s ∈ ks, keyOk s) (h8 : ks.length ≤ 8) :
    Calls Tryz.prog 153 #[v] w fun e w' => e = .returned (.bool true) ∧ w = w' := by
  obtain ⟨a, cap, rfl, hc, hm, hcell⟩ := h
  simp only [List.length_map] at hc hcell ⊢
  have HC : Hid (∀ i, (hi : i < ks.length) → ∃ b o, a = some ⟨b, o, none⟩ ∧ b < w.heap.size ∧ w.cell? ⟨b, o + i, none⟩ = some (txt ks[i])) := fun i hi => by
    obtain ⟨b, o, e, hb, hc⟩ := hcell i hi
    exact ⟨b, o, e, hb, by rw [hc, List.getElem_map]⟩
  have HK : Hid (∀ i, (hi : i < ks.length) → 1 ≤ ks[i].length ∧ ks[i].length ≤ 64) := fun i hi => hk _ (List.getElem_mem hi)
  have HP : Hid (∀ i, (hi : i + 1 < ks.length) → bytesBefore ks[i] ks[i + 1] = true) := fun i hi => List.pairwise_iff_getElem.1 hp i (i + 1) (by omega) hi (by omega)
  have h8b : decide ((ks.length : Int) ≤ 8) = true := by simp; omega
  clear hcell hk hp hm
  go_enter Tryz.func153, Tryz.ntmps153
  go_wp2
  go_loop [3, 4, 7] (fun _ _ i => ∃ k : Nat, k ≤ ks.length ∧ i = .int .i64 k) (fun _ _ i => ks.length - (intOf i).toNat)
  case atStart => exact ⟨0, by omega, rfl⟩
  case round =>
    obtain ⟨k, hk, rfl⟩ := hrel
    by_cases hlt : k < ks.length
    · obtain ⟨b, o, rfl, hb, hc0⟩ := HC.out k hlt
      have hl := HK.out k hlt
      by_cases h0 : k = 0
      · subst h0
        clear HC HK HP
        rw [Nat.add_zero] at hc0
        generalize ks[0] = s at *
        obtain ⟨hl1, hl2⟩ := hl
        go_wp2
        go_round
        case rel => exact ⟨1, by omega, by go_num⟩
        case measure => simp [intOf]; omega
      · obtain ⟨j, rfl⟩ : ∃ j, k = j + 1 := ⟨k - 1, by omega⟩
        obtain ⟨_, _, e, _, hc1⟩ := HC.out j (by omega)
        cases e
        have hless := HP.out j hlt
        rw [← bless6] at hless
        clear HC HK HP h0
        generalize ks[j] = t at *
        generalize ks[j + 1] = s at *
        obtain ⟨hl1, hl2⟩ := hl
        go_wp2
        go_round
        case rel => exact ⟨j + 1 + 1, by omega, by go_num⟩
        case measure => simp [intOf]; omega
    · go_wp2
      go_ret
      exact ⟨rfl, rfl⟩

abbrev numV (n : Nat) : Value := .int .i64 n
theorem check1_calls (s : Str) (w : World) (h : s.length ≤ 8192) : Calls Tryz.prog 155 #[.string ⟨s.toArray⟩] w fun e w' => e = .returned (.bool false) ∧ w = w' := by
  have hb' : decide (8192 < (s.length : Int)) = false := by simp <;> omega
  go_enter Tryz.func155, Tryz.ntmps155
  go_wp2
  go_ret
  exact ⟨rfl, rfl⟩
theorem check2_calls (n : Nat) (w : World) (h : n ≤ 2147483647) : Calls Tryz.prog 157 #[.int .i64 n] w fun e w' => e = .returned (.bool false) ∧ w = w' := by
  have hb' : decide (2147483647 < (n : Int)) = false := by simp <;> omega
  have h0 : decide ((n : Int) < 0) = false := by simp <;> omega
  go_enter Tryz.func157, Tryz.ntmps157
  go_wp2
  go_ret
  exact ⟨rfl, rfl⟩

set_option maxRecDepth 100000 in
set_option maxHeartbeats 800000 in
theorem IndexNone_txt (v : Value) (l : List Str) (w : World) (h : In1 w v (l.map txt)) (hl : l.length ≤ 1000) (hs : ∀ x ∈ l, x.length ≤ 8192) :
    Calls Tryz.prog 173 #[v, .func (.func 155) #[] #[]] w fun e w' => e = .returned (.int .i64 (-1)) ∧ w = w' := by
  obtain ⟨a, cap, rfl, hc, hm, hcell⟩ := h
  simp only [List.length_map] at hc hcell ⊢
  have HC : Hid (∀ i, (hi : i < l.length) → ∃ b o, a = some ⟨b, o, none⟩ ∧ b < w.heap.size ∧ w.cell? ⟨b, o + i, none⟩ = some (txt l[i])) := fun i hi => by
    obtain ⟨b, o, e, hb, hc⟩ := hcell i hi
    exact ⟨b, o, e, hb, by rw [hc, List.getElem_map]⟩
  have HS : Hid (∀ i, (hi : i < l.length) → l[i].length ≤ 8192) := fun i hi => hs _ (List.getElem_mem hi)
  clear hcell hs hm
  go_enter Tryz.func173, Tryz.ntmps173
  go_wp2
  go_loop [5, 8] (fun _ i => ∃ k : Nat, k ≤ l.length ∧ i = .int .i64 k) (fun _ i => l.length - (intOf i).toNat)
  case atStart => exact ⟨0, by omega, rfl⟩
  case round =>
    obtain ⟨k, hk, rfl⟩ := hrel
    by_cases hlt : k < l.length
    · obtain ⟨b, o, rfl, hb, hc0⟩ := HC.out k hlt
      have hx := HS.out k hlt
      clear HC HS
      generalize l[k] = x at *
      go_wp2_with fail
      refine (check1_calls x _ hx).mono ?_
      rintro e w' ⟨rfl, rfl⟩
      go_wp2_with fail
      go_round
      case rel => exact ⟨k + 1, by omega, by go_num⟩
      case measure => simp [intOf]; omega
    · go_wp2
      go_ret
      exact ⟨rfl, rfl⟩
set_option maxHeartbeats 400000 in
theorem ContainsNone_txt (v : Value) (l : List Str) (w : World) (h : In1 w v (l.map txt)) (hl : l.length ≤ 1000) (hs : ∀ x ∈ l, x.length ≤ 8192) :
    Calls Tryz.prog 154 #[v, .func (.func 155) #[] #[]] w fun e w' => e = .returned (.bool false) ∧ w = w' := by
  have HI := Lib.hid (IndexNone_txt v l w h hl hs)
  clear h hs
  go_enter Tryz.func154, Tryz.ntmps154
  go_wp2_with fail
  refine HI.out.mono ?_
  rintro e w' ⟨rfl, rfl⟩
  go_wp2_with fail
  go_ret
  exact ⟨rfl, rfl⟩

set_option maxRecDepth 100000 in
set_option maxHeartbeats 800000 in
theorem IndexNone_num (v : Value) (l : List Nat) (w : World) (h : In1 w v (l.map numV)) (hl : l.length ≤ 1000) (hs : ∀ x ∈ l, x ≤ 2147483647) :
    Calls Tryz.prog 174 #[v, .func (.func 157) #[] #[]] w fun e w' => e = .returned (.int .i64 (-1)) ∧ w = w' := by
  obtain ⟨a, cap, rfl, hc, hm, hcell⟩ := h
  simp only [List.length_map] at hc hcell ⊢
  have HC : Hid (∀ i, (hi : i < l.length) → ∃ b o, a = some ⟨b, o, none⟩ ∧ b < w.heap.size ∧ w.cell? ⟨b, o + i, none⟩ = some (numV l[i])) := fun i hi => by
    obtain ⟨b, o, e, hb, hc⟩ := hcell i hi
    exact ⟨b, o, e, hb, by rw [hc, List.getElem_map]⟩
  have HS : Hid (∀ i, (hi : i < l.length) → l[i] ≤ 2147483647) := fun i hi => hs _ (List.getElem_mem hi)
  clear hcell hs hm
  go_enter Tryz.func174, Tryz.ntmps174
  go_wp2
  go_loop [5, 8] (fun _ i => ∃ k : Nat, k ≤ l.length ∧ i = .int .i64 k) (fun _ i => l.length - (intOf i).toNat)
  case atStart => exact ⟨0, by omega, rfl⟩
  case round =>
    obtain ⟨k, hk, rfl⟩ := hrel
    by_cases hlt : k < l.length
    · obtain ⟨b, o, rfl, hb, hc0⟩ := HC.out k hlt
      have hx := HS.out k hlt
      clear HC HS
      generalize l[k] = x at *
      go_wp2_with fail
      refine (check2_calls x _ hx).mono ?_
      rintro e w' ⟨rfl, rfl⟩
      go_wp2_with fail
      go_round
      case rel => exact ⟨k + 1, by omega, by go_num⟩
      case measure => simp [intOf]; omega
    · go_wp2
      go_ret
      exact ⟨rfl, rfl⟩
set_option maxHeartbeats 400000 in
theorem ContainsNone_num (v : Value) (l : List Nat) (w : World) (h : In1 w v (l.map numV)) (hl : l.length ≤ 1000) (hs : ∀ x ∈ l, x ≤ 2147483647) :
    Calls Tryz.prog 156 #[v, .func (.func 157) #[] #[]] w fun e w' => e = .returned (.bool false) ∧ w = w' := by
  have HI := Lib.hid (IndexNone_num v l w h hl hs)
  clear h hs
  go_enter Tryz.func156, Tryz.ntmps156
  go_wp2_with fail
  refine HI.out.mono ?_
  rintro e w' ⟨rfl, rfl⟩
  go_wp2_with fail
  go_ret
  exact ⟨rfl, rfl⟩

/-- A page in memory. -/
structure PgIn (w : World) (kv vv cv : Value) (p : Pg) : Prop where
  k : In1 w kv (p.keys.map txt)
  v : In1 w vv (p.vals.map txt)
  c : In1 w cv (p.kids.map numV)
abbrev pageV (p : Pg) (kv vv cv : Value) : Value := .agg #[.bool p.leaf, kv, vv, cv]

theorem PgIn.mod {w w' : World} {kv vv cv : Value} {p : Pg} (h : PgIn w kv vv cv p) (hm : Mod NoB w w') : PgIn w' kv vv cv p := ⟨h.k.mod hm, h.v.mod hm, h.c.mod hm⟩
set_option maxRecDepth 100000 in
set_option maxHeartbeats 1600000 in
theorem Check_calls (p : Pg) (kv vv cv : Value) (w : World) (h : PgIn w kv vv cv p) (hp : pgOk p) :
    Calls Tryz.prog 123 #[pageV p kv vv cv] w fun e w' => e = .returned (.int .i64 0) ∧ Mod NoB w w' := by
  obtain ⟨h1, h2, h3, h4, h5⟩ := hp
  have HR := Lib.hid (fun X (hX : Mod NoB w X) => rising_calls kv p.keys X (h.k.mod hX) h1 h2 h3)
  obtain ⟨ka, kc, rfl, _, _, _⟩ := h.k
  obtain ⟨va, vc, rfl, _, _, _⟩ := h.v
  obtain ⟨ca, cc, rfl, _, _, _⟩ := h.c
  simp only [List.length_map] at *
  cases hl : p.leaf with
  | true =>
    obtain ⟨g1, g2, g3⟩ := h4 hl
    have HV := Lib.hid (fun X (hX : Mod NoB w X) => ContainsNone_txt _ p.vals X (h.v.mod hX) (by omega) g3)
    have g0 : p.kids.length = 0 := by rw [g1]; rfl
    rw [g2] at HV
    rw [g2, g0]
    clear h4 h5 h h2 h1 g0 g1 g2 g3
    go_enter Tryz.func123, Tryz.ntmps123
    go_wp2_with fail
    refine (HR.out _ (by (repeat (first | with_reducible exact Mod.refl _ _ | with_reducible refine Mod.drew ?_ | with_reducible refine Mod.alloc ?_ _)))).mono ?_
    rintro e w' ⟨rfl, rfl⟩
    go_wp2_with fail
    refine (HV.out _ (by (repeat (first | with_reducible exact Mod.refl _ _ | with_reducible refine Mod.drew ?_ | with_reducible refine Mod.alloc ?_ _)))).mono ?_
    rintro e w' ⟨rfl, rfl⟩
    go_wp2_with fail
    go_ret
    exact ⟨rfl, (by (repeat (first | with_reducible exact Mod.refl _ _ | with_reducible refine Mod.drew ?_ | with_reducible refine Mod.alloc ?_ _)))⟩
  | false =>
    obtain ⟨g1, g2, g3, g4⟩ := h5 hl
    have HC := Lib.hid (fun X (hX : Mod NoB w X) => ContainsNone_num _ p.kids X (h.c.mod hX) (by omega) g4)
    have g0 : p.vals.length = 0 := by rw [g1]; rfl
    rw [g3] at HC
    rw [g3, g0]
    clear h4 h5 h h2 h1 g0 g1 g3 g4
    go_enter Tryz.func123, Tryz.ntmps123
    go_wp2_with fail
    refine (HR.out _ (by (repeat (first | with_reducible exact Mod.refl _ _ | with_reducible refine Mod.drew ?_ | with_reducible refine Mod.alloc ?_ _)))).mono ?_
    rintro e w' ⟨rfl, rfl⟩
    go_wp2_with fail
    refine (HC.out _ (by (repeat (first | with_reducible exact Mod.refl _ _ | with_reducible refine Mod.drew ?_ | with_reducible refine Mod.alloc ?_ _)))).mono ?_
    rintro e w' ⟨rfl, rfl⟩
    go_wp2_with fail
    go_ret
    exact ⟨rfl, (by (repeat (first | with_reducible exact Mod.refl _ _ | with_reducible refine Mod.drew ?_ | with_reducible refine Mod.alloc ?_ _)))⟩

end Go.Proofs.YtgofngilfdnakaaGreat
