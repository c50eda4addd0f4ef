/-
  This text proves what the package btree's New does without a root, and cupellaw06.fresh; no condition.
  This text proves that cupellaw06.awake answers true, and what the package btree's Put does with keys that may not be; no condition.
  This text proves what cupellaw06.shape answers for a tree's page: how deep it is; under bounds on lengths.
  This text proves what the package btree's del does at every depth; under bounds on lengths.
  This text proves what the package btree's Delete does; under bounds on lengths.
  This text proves how a law's row follows of its walk: where the call leaves each old block as it was, all arguments read as they did; no Go function is spoken of.
  This text proves what the argument of the laws of cupellaw06 is, as their walks want it: what is done, in a slice; no Go function is spoken of.
  This text proves that the law BtreeShapes answers true: whatever is put and taken away.
  This text proves that the law BtreeShapes answers true for every input, and that its arguments read afterwards as they read before: no condition.
-/
import Derived.Test.YtgofngilfdnakaaBtW15
import Derived.Test.YtgofngilfdnakaaPkA
import Derived.Test.YtgofngilfdnakaaPkB
import Derived.Test.YtgofngilfdnakaaPkC
import Derived.Test.YtgofngilfdnakaaBtW19q
import Derived.Test.YtgofngilfdnakaaBtW20q
import Derived.Test.YtgofngilfdnakaaMem
import Derived.WalkKit
import Derived.ProofKit
import Derived.OpenShut
import Derived.WideKeyArgs
import Derived.SliceStrings
import Derived.ChangeMaps5
import Derived.Test.YtgofngilfdnakaaRows

namespace Go.Proofs.Ytgofngilfdnakaa
open Go Go.RowKit
set_option linter.unusedSimpArgs false
attribute [local go_sem] over_cell over_frozen lt_over le_over noB loudUpon ByteArray.mk_append_mk ByteArray.extract_mk

set_option maxRecDepth 100000 in
set_option maxHeartbeats 1600000 in
theorem TNew_calls (l p : Nat) (g : Lg) (w : World) (h : LogAt w l p g) :
    Calls Try.prog 116 #[.pointer (some ⟨l, 0, none⟩), .int .i64 (-1)] w fun e w' => e = .returned (.tuple #[.pointer (some ⟨w.heap.size, 0, none⟩), .int .i64 0]) ∧ Mod NoB w w' ∧ TL w' w.heap.size l p g (-1) := by
  have HL := Lib.hid h
  have hlb := lt_heap h
  clear h
  go_enter Try.func116, Try.ntmps116
  go_wp2_with fail
  refine bodyPost_ret (v := .tuple #[.pointer (some ⟨w.heap.size, 0, none⟩), .int .i64 0]) (by simp [results, Try.f116, go_sem]) rfl ?_
  have hm : Mod NoB w (w.alloc (.cells #[.pointer (some ⟨l, 0, none⟩), .int .i64 (-1)] 193)) := (Mod.refl _ _).alloc _
  exact ⟨rfl, hm, heap_alloc_new _ _, HL.out.mod hm id⟩

/-- What fresh leaves. -/
def Fresh6 (w : World) (e : Ending) (w' : World) : Prop := ∃ t l p, e = .returned (.tuple #[.pointer (some ⟨t, 0, none⟩), .pointer (some ⟨l, 0, none⟩), .bool true]) ∧ Mod NoB w w' ∧ TL w' t l p emptyLog (-1) ∧ w.heap.size ≤ t ∧ w.heap.size ≤ l
set_option maxRecDepth 100000 in
set_option maxHeartbeats 1600000 in
theorem fresh_calls (w : World) : Calls Try.prog 72 #[] w (Fresh6 w) := by
  go_enter Try.func72, Try.ntmps72
  go_wp2_with fail
  refine (New_calls w).mono ?_
  rintro e W1 ⟨rfl, hm1, hd1⟩
  generalize hp : w.heap.size + 2 = p at *
  clear hp
  have hop := Open_calls p _ Dk.fresh 0 W1 hd1 fit_fresh (by decide)
  rw [aw_open] at hop
  have HOP := Lib.hid hop
  have HM1 := Lib.hid hm1
  clear hop hm1 hd1
  go_wp2_with fail
  refine HOP.out.mono ?_
  rintro e W2 ⟨l, rfl, hl0, hl2, hm2, hd2⟩
  have HL : Hid (w.heap.size ≤ l) := Nat.le_trans HM1.out.size hl0
  have HM2 : Hid (Mod NoB w W2) := HM1.out.trans hm2 (fun k hk h => by rcases h with h | ⟨h, _⟩; exact h; omega)
  have HL2 := Lib.hid hl2
  clear hl0 hl2 hm2 hd2 HOP HM1
  go_wp2_with fail
  refine (TNew_calls l p _ W2 HL2.out).mono ?_
  rintro e W3 ⟨rfl, hm3, ht3⟩
  have HM3 := Lib.hid (HM2.out.trans hm3 (fun _ _ h => h))
  have HT3 := Lib.hid ht3
  have hsz := HM2.out.size
  clear hm3 ht3 HM2 HL2
  go_wp2_with fail
  refine bodyPost_ret (v := .tuple #[.pointer (some ⟨W2.heap.size, 0, none⟩), .pointer (some ⟨l, 0, none⟩), .bool true]) (by simp [results, Try.f72, go_sem]) rfl ?_
  exact ⟨_, _, _, rfl, HM3.out, HT3.out, hsz, HL.out⟩

end Go.Proofs.Ytgofngilfdnakaa

namespace Go.Proofs.Ytgofngilfdnakaa
open Go Go.RowKit
set_option linter.unusedSimpArgs false
attribute [local go_sem] over_cell over_frozen lt_over le_over noB loudUpon ByteArray.mk_append_mk ByteArray.extract_mk

theorem empty_small : Small emptyLog 6 := by unfold Small; decide
theorem aw6_get : (Files.put [] [97] [49]).get [97] = some [49] := by decide
set_option maxRecDepth 100000 in
set_option maxHeartbeats 1600000 in
theorem awake6_calls (w : World) : Calls Try.prog 73 #[] w fun e w' => e = .returned (.bool true) ∧ Mod NoB w w' := by
  go_enter Try.func73, Try.ntmps73
  go_wp2_with fail
  refine (fresh_calls w).mono ?_
  rintro e W1 ⟨t, l, p, rfl, hm1, ht1, htw, hlw⟩
  have HP := Lib.hid (Put_first t l p emptyLog [97] [49] W1 ⟨by decide, by decide⟩ (by decide) ht1 empty_small)
  have HM1 := Lib.hid hm1
  clear hm1 ht1
  go_wp2_with fail
  refine HP.out.mono ?_
  rintro e W2 ⟨root, g, rfl, hm2, ht2, hg2, hn2, hr2⟩
  have hs : Small g 0 := by
    obtain ⟨x, rfl⟩ := hg2
    unfold Small
    unfold emptyLog at *
    simp only [List.length_nil, List.nil_append] at *
    omega
  have hge := Get_calls t l p g root [97] _ W2 ht2 hr2 hs
  rw [aw6_get] at hge
  have HG := Lib.hid hge
  have HM2 : Hid (Mod NoB w W2) := HM1.out.trans hm2 (fun j hj e => by omega)
  clear hge hm2 ht2 hg2 hn2 hr2 HP hs HM1
  go_wp2_with fail
  refine HG.out.mono ?_
  rintro e W3 ⟨rfl, hm3⟩
  have HM3 := Lib.hid (HM2.out.trans hm3 (fun _ _ h => h))
  clear hm3 HG
  unfold gotV
  go_wp2_with fail
  go_ret
  exact ⟨rfl, HM3.out⟩
set_option maxRecDepth 100000 in
set_option maxHeartbeats 3200000 in
theorem Put_not2 (t : Nat) (key v : Str) (w : World) (hk : key.length < 1 ∨ 64 < key.length ∨ 8192 < v.length) (hl : key.length ≤ 9223372036854775807) (hl2 : v.length ≤ 9223372036854775807) :
    Calls Try.prog 75 #[.pointer (some ⟨t, 0, none⟩), .string ⟨key.toArray⟩, .string ⟨v.toArray⟩] w fun e w' => e = .returned (.int .i64 1) ∧ Mod NoB w w' := by
  go_enter Try.func75, Try.ntmps75
  go_wp2_with fail
  all_goals (first | exact bodyPost_ret (v := .int .i64 1) (by simp [results, Try.f75, go_sem]) rfl ⟨rfl, Mod.refl _ _⟩ | (exfalso; omega))
instance (s : Str) : Decidable (keyOk s) := by unfold keyOk; infer_instance
/-- Put, whatever is put. -/
theorem Put_any (t l p : Nat) (g : Lg) (root : Int) (key v : Str) (M : Files) (w : World) (h : TL w t l p g root) (hr : TR g root M) (hM : M.length ≤ 400) (hs : Small g 6) (hl : key.length ≤ 9223372036854775807) (hl2 : v.length ≤ 9223372036854775807) :
    Calls Try.prog 75 #[.pointer (some ⟨t, 0, none⟩), .string ⟨key.toArray⟩, .string ⟨v.toArray⟩] w (TreePost w t l p g 700000 (.int .i64 (if keyOk key ∧ v.length ≤ 8192 then 0 else 1)) (if keyOk key ∧ v.length ≤ 8192 then M.put key v else M)) := by
  by_cases hk : keyOk key ∧ v.length ≤ 8192
  · rw [if_pos hk, if_pos hk]
    exact Put_calls t l p g root key v M w hk.1 hk.2 h hr hM hs
  · rw [if_neg hk, if_neg hk]
    refine (Put_not2 t key v w (by unfold keyOk at hk; omega) hl hl2).mono fun e w' ⟨h1, h2⟩ => ⟨root, g, h1, h2.mono (noB_sub _ _), h.mod h2, Grew.refl g, Nat.le_add_right _ _, hr⟩

end Go.Proofs.Ytgofngilfdnakaa

namespace Go.Proofs.Ytgofngilfdnakaa
open Go Go.RowKit
set_option linter.unusedSimpArgs false
attribute [local go_sem] over_cell over_frozen lt_over le_over noB loudUpon ByteArray.mk_append_mk ByteArray.extract_mk

/-- An upper bound as a text: none is the empty one. -/
def upTo (hi : Option Str) (s : Str) : Prop := (hi = none ∧ s = []) ∨ (hi = some s ∧ s ≠ [])
theorem upTo.below {hi : Option Str} {s k : Str} (h : upTo hi s) (hb : Go.Proofs.Ytgofngilfdnakaa.below hi k) : s = [] ∨ Op.bytesLess k s = true := by
  rcases h with ⟨_, h⟩ | ⟨rfl, _⟩
  · exact .inl h
  · exact .inr (by rw [bless6]; exact hb)
theorem frozen_mod {W X : World} {b : Nat} (hm : Mod NoB W X) (hb : b < W.heap.size) (h : ∀ i, W.frozen? ⟨b, i, none⟩ = false) : ∀ i, X.frozen? ⟨b, i, none⟩ = false := fun i => by
  have := h i
  unfold World.frozen? at *
  rw [hm.block b hb id]
  exact this
/-- Shape of what lies below. -/
def Shaped (l p : Nat) (g : Lg) (d : Nat) : Prop := ∀ (k m : Nat) (root : Bool) (lo hs : Str) (hi : Option Str) (M : Files) (w : World), LogAt w l p g → Rep (rdG g) m d k lo hi M → 1 ≤ m → (root = false → 4 ≤ m) → upTo hi hs →
  Calls Try.prog 77 #[.pointer (some ⟨l, 0, none⟩), .int .i64 k, .bool root, .string ⟨lo.toArray⟩, .string ⟨hs.toArray⟩] w fun e w' => e = .returned (.int .i64 (d + 1 : Nat)) ∧ Mod NoB w w'

set_option maxRecDepth 100000 in
set_option maxHeartbeats 6400000 in
theorem shape_leaf (l p : Nat) (g : Lg) (hs : Small g 0) : Shaped l p g 0 := by
  intro k m root lo hs hi M w h hr hm hroot hup
  unfold Small at *
  obtain ⟨_, q, hq, hm1, h8, hp⟩ := hr
  have hrd := LRead_calls l p g (k : Int) w h (by omega) (by omega) (by omega) (by have := rdG_lt hq; omega)
  rw [hq.2] at hrd
  have HRD := Lib.hid hrd
  have HDC := Lib.hid (fun X => Decode_calls q X hq.1)
  have HKS : Hid (∀ s ∈ q.keys, Op.bytesLess s lo = false ∧ (hs = [] ∨ Op.bytesLess s hs = true)) := fun s hs => ⟨by rw [bless6]; exact (repP_keys hp s hs).1, hup.below (repP_keys hp s hs).2.1⟩
  have HLF := Lib.hid hp.1
  have hroot2 : root = false → ¬ (((q.keys.length : Nat) : Int) < 4) := fun e => by
    have := hroot e
    omega
  have hkb : (((q.keys.length : Nat) : Int) == 0) = false := by
    rw [beq_eq_false_iff_ne]
    omega
  clear hrd hq hp h hup hroot hm1 hm
  unfold pageV at HDC
  rw [HLF.out] at HDC
  go_enter Try.func77, Try.ntmps77
  go_wp2_with fail
  refine HRD.out.mono ?_
  rintro e W1 ⟨rfl, hm1⟩
  have HM1 := Lib.hid hm1
  clear hm1 HRD
  go_wp2_with fail
  refine (HDC.out _).mono ?_
  rintro e W2 ⟨kv, vv, cv, rfl, ho2, hm2⟩
  obtain ⟨⟨a1, c1, rfl⟩, ⟨a2, c2, rfl⟩, a3, c3, rfl⟩ := ho2.shapes
  obtain ⟨W3, hW3⟩ : ∃ W3, W2.alloc (.cells #[.bool true, .slice a1 q.keys.length c1, .slice a2 q.vals.length c2, .slice a3 q.kids.length c3] 195) = W3 := ⟨_, rfl⟩
  have hm3 : Mod NoB W2 W3 := by rw [← hW3]; exact (Mod.refl _ _).alloc _
  have hP3 : W3.heap[W2.heap.size]? = some (.cells #[.bool true, .slice a1 q.keys.length c1, .slice a2 q.vals.length c2, .slice a3 q.kids.length c3] 195 (0, 0)) := by rw [← hW3]; exact heap_alloc_new _ _
  have HM3 := Lib.hid ((HM1.out.trans hm2 (fun _ _ h => h)).trans hm3 (fun _ _ h => h))
  have HO3 := Lib.hid (ho2.mod hm3)
  obtain ⟨pb, p0, p1, p2, p3, pf⟩ := Page4.facts hP3
  clear hm2 ho2 hm3 hP3 HDC HM1
  have HKX : Hid (∀ i, i < q.keys.length → ∃ a s, a1 = some a ∧ W3.cell? ⟨a.block, i, none⟩ = some (txt s) ∧ a = ⟨a.block, 0, none⟩ ∧ a.block < W3.heap.size ∧ Op.bytesLess s lo = false ∧ (hs = [] ∨ Op.bytesLess s hs = true)) := fun i hi => by
    obtain ⟨_, _, e2, _, _, _, hg⟩ := own_shape HO3.out.k
    cases e2
    obtain ⟨kg, rfl⟩ := hg (by omega)
    have hs : q.keys[i]? = some q.keys[i] := List.getElem?_eq_getElem hi
    obtain ⟨c0, _, cb⟩ := row_atS HO3.out.k hs rfl
    exact ⟨_, _, rfl, c0, rfl, cb, HKS.out _ (List.getElem_mem hi)⟩
  have hhs : hs = [] ∨ hs ≠ [] := Classical.em _
  clear HKS
  have hpre : root = true ∨ (root = false ∧ ¬ (((q.keys.length : Nat) : Int) < 4)) := by
    cases root
    · exact .inr ⟨rfl, by have := hroot2 rfl; omega⟩
    · exact .inl rfl
  clear hroot2
  rcases hpre with rfl | ⟨rfl, hn4⟩
  all_goals
    go_wp2_with fail
    go_loop [15] (fun i => ∃ (j : Nat), j ≤ q.keys.length ∧ i = .int .i64 j) (fun i => q.keys.length - (intOf i).toNat)
    case atStart => exact ⟨0, by omega, rfl⟩
    case round =>
      obtain ⟨j, hj, rfl⟩ := hrel
      by_cases hlt : j < q.keys.length
      · obtain ⟨a, s, rfl, c0, ha, cb, hlo, hup⟩ := HKX.out j hlt
        obtain ⟨kg, off, sp⟩ := a
        cases ha
        simp only at c0 cb
        rcases hhs with rfl | hne
        · clear hup HKX
          go_wp2_with fail
          go_round
          case rel => exact ⟨j + 1, by omega, by go_num⟩
          case measure => simp [intOf]; omega
        · have hup2 := hup.resolve_left hne
          clear hup HKX
          go_wp2_with fail
          go_round
          case rel => exact ⟨j + 1, by omega, by go_num⟩
          case measure => simp [intOf]; omega
      · clear HKX
        go_wp2_with fail
        refine bodyPost_ret (v := .int .i64 1) (by simp [results, Try.f77, go_sem]) rfl ⟨rfl, HM3.out⟩

set_option maxRecDepth 100000 in
set_option maxHeartbeats 12800000 in
theorem shape_node (l p d : Nat) (g : Lg) (hs : Small g 0) (hd : d ≤ 100) (HS : Shaped l p g d) : Shaped l p g (d + 1) := by
  intro k m root lo hs hi M w h hr hm hroot hup
  unfold Small at *
  obtain ⟨_, q, hq, hm1, h8, hp⟩ := hr
  have hrd := LRead_calls l p g (k : Int) w h (by omega) (by omega) (by omega) (by have := rdG_lt hq; omega)
  rw [hq.2] at hrd
  have HRD := Lib.hid hrd
  have HDC := Lib.hid (fun X => Decode_calls q X hq.1)
  have HKS : Hid (∀ s ∈ q.keys, Op.bytesLess s lo = false ∧ (hs = [] ∨ Op.bytesLess s hs = true)) := fun s hs => ⟨by rw [bless6]; exact (repP_keys hp s hs).1, hup.below (repP_keys hp s hs).2.1⟩
  have HLF := Lib.hid hp.1
  have hkn : q.kids.length = q.keys.length + 1 := kr_length hp.2.2.2
  have HKD : Hid (∀ i, i < q.kids.length → ∃ x lo' hs', q.kids[i]? = some x ∧ (i = 0 → lo' = lo) ∧ (0 < i → q.keys[i - 1]? = some lo') ∧ (i < q.keys.length → q.keys[i]? = some hs') ∧ (¬ i < q.keys.length → hs' = hs) ∧ ∀ X, Mod NoB w X → Calls Try.prog 77 #[.pointer (some ⟨l, 0, none⟩), .int .i64 x, .bool false, .string ⟨lo'.toArray⟩, .string ⟨hs'.toArray⟩] X fun e w' => e = .returned (.int .i64 (d + 1 : Nat)) ∧ Mod NoB X w') := fun i hi2 => by
    obtain ⟨M', hrep, _⟩ := kr_at hp.2.2.2 i hi2
    refine ⟨q.kids[i], if i = 0 then lo else q.keys[i - 1]?.getD [], if i < q.keys.length then q.keys[i]?.getD [] else hs, List.getElem?_eq_getElem hi2, fun e => if_pos e, fun e => ?_, fun e => ?_, fun e => if_neg e, fun X hX => ?_⟩
    · rw [if_neg (by omega), List.getElem?_eq_getElem (by omega)]; rfl
    · rw [if_pos e, List.getElem?_eq_getElem e]; rfl
    · refine HS _ 4 false _ _ _ M' X (h.mod hX id) hrep (by omega) (fun _ => Nat.le_refl _) ?_
      by_cases e : i < q.keys.length
      · rw [if_pos e, if_pos e]
        refine .inr ⟨rfl, fun e2 => ?_⟩
        rw [List.getElem?_eq_getElem e, Option.getD_some] at e2
        have := (hp.2.2.1 _ (List.getElem_mem e)).1
        rw [e2] at this
        exact absurd this (by decide)
      · rw [if_neg e, if_neg e]
        exact hup
  have hroot2 : root = false → ¬ (((q.keys.length : Nat) : Int) < 4) := fun e => by
    have := hroot e
    omega
  have hkb : (((q.keys.length : Nat) : Int) == 0) = false := by
    rw [beq_eq_false_iff_ne]
    omega
  have HKN := Lib.hid hkn
  have hD0 : 0 < d + 1 := by omega
  have hD9 : d + 1 ≤ 101 := by omega
  have hk9 : q.kids.length ≤ 9 := by omega
  have hk0 : 0 < q.keys.length := by omega
  clear hrd hq hp h hup hroot hm1 hm hkn HS hd
  generalize d + 1 = D at *
  unfold pageV at HDC
  rw [HLF.out] at HDC
  go_enter Try.func77, Try.ntmps77
  go_wp2_with fail
  refine HRD.out.mono ?_
  rintro e W1 ⟨rfl, hm1⟩
  have HM1 := Lib.hid hm1
  clear hm1 HRD
  go_wp2_with fail
  refine (HDC.out _).mono ?_
  rintro e W2 ⟨kv, vv, cv, rfl, ho2, hm2⟩
  obtain ⟨⟨a1, c1, rfl⟩, ⟨a2, c2, rfl⟩, a3, c3, rfl⟩ := ho2.shapes
  obtain ⟨W3, hW3⟩ : ∃ W3, W2.alloc (.cells #[.bool false, .slice a1 q.keys.length c1, .slice a2 q.vals.length c2, .slice a3 q.kids.length c3] 195) = W3 := ⟨_, rfl⟩
  have hm3 : Mod NoB W2 W3 := by rw [← hW3]; exact (Mod.refl _ _).alloc _
  have hP3 : W3.heap[W2.heap.size]? = some (.cells #[.bool false, .slice a1 q.keys.length c1, .slice a2 q.vals.length c2, .slice a3 q.kids.length c3] 195 (0, 0)) := by rw [← hW3]; exact heap_alloc_new _ _
  have HM3 := Lib.hid ((HM1.out.trans hm2 (fun _ _ h => h)).trans hm3 (fun _ _ h => h))
  have HO3 := Lib.hid (ho2.mod hm3)
  obtain ⟨pb, p0, p1, p2, p3, pf⟩ := Page4.facts hP3
  clear hm2 ho2 hm3 hP3 HDC HM1
  have HKX : Hid (∀ i, i < q.keys.length → ∃ a s, a1 = some a ∧ W3.cell? ⟨a.block, i, none⟩ = some (txt s) ∧ a = ⟨a.block, 0, none⟩ ∧ a.block < W3.heap.size ∧ Op.bytesLess s lo = false ∧ (hs = [] ∨ Op.bytesLess s hs = true)) := fun i hi => by
    obtain ⟨_, _, e2, _, _, _, hg⟩ := own_shape HO3.out.k
    cases e2
    obtain ⟨kg, rfl⟩ := hg (by omega)
    have hs : q.keys[i]? = some q.keys[i] := List.getElem?_eq_getElem hi
    obtain ⟨c0, _, cb⟩ := row_atS HO3.out.k hs rfl
    exact ⟨_, _, rfl, c0, rfl, cb, HKS.out _ (List.getElem_mem hi)⟩
  have hhs : hs = [] ∨ hs ≠ [] := Classical.em _
  clear HKS
  have hpre : root = true ∨ (root = false ∧ ¬ (((q.keys.length : Nat) : Int) < 4)) := by
    cases root
    · exact .inr ⟨rfl, by have := hroot2 rfl; omega⟩
    · exact .inl rfl
  clear hroot2
  rcases hpre with rfl | ⟨rfl, hn4⟩
  all_goals
    go_wp2_with fail
    go_loop [15] (fun i => ∃ (j : Nat), j ≤ q.keys.length ∧ i = .int .i64 j) (fun i => q.keys.length - (intOf i).toNat)
    case atStart => exact ⟨0, by omega, rfl⟩
    case round =>
      obtain ⟨j, hj, rfl⟩ := hrel
      by_cases hlt : j < q.keys.length
      · obtain ⟨a, s, rfl, c0, ha, cb, hlo, hup⟩ := HKX.out j hlt
        obtain ⟨kg, off, sp⟩ := a
        cases ha
        simp only at c0 cb
        rcases hhs with rfl | hne
        · clear hup HKX
          go_wp2_with fail
          go_round
          case rel => exact ⟨j + 1, by omega, by go_num⟩
          case measure => simp [intOf]; omega
        · have hup2 := hup.resolve_left hne
          clear hup HKX
          go_wp2_with fail
          go_round
          case rel => exact ⟨j + 1, by omega, by go_num⟩
          case measure => simp [intOf]; omega
      · clear HKX hhs
        go_wp2_with fail
        go_loopw [16, 17] (fun dp i wr => ∃ j : Nat, j ≤ q.kids.length ∧ i = .int .i64 j ∧ ((j = 0 ∧ dp = .int .i64 0) ∨ (0 < j ∧ dp = .int .i64 D)) ∧ Hid (Mod NoB W3 wr)) (fun _ i _ => q.kids.length - (intOf i).toNat)
        case atStart => exact ⟨0, by omega, rfl, .inl ⟨rfl, rfl⟩, Mod.refl _ _⟩
        case round =>
          obtain ⟨i, hi, rfl, hdp, HMR⟩ := hrel
          have hsz := HMR.out.size
          rw [← World.cell?_of_block (w := W3) (HMR.out.block _ pb id)] at p0 p1 p2 p3
          have hpf := frozen_mod HMR.out pb pf
          by_cases hil : i < q.kids.length
          · obtain ⟨x, lo', hs', hx, g0, g1, g2, g3, hc⟩ := HKD.out i hil
            have HC := Lib.hid (hc wr (HM3.out.trans HMR.out (fun _ _ h => h)))
            have HO4 := Lib.hid (HO3.out.mod HMR.out)
            obtain ⟨_, _, e2, _, _, _, hg⟩ := own_shape HO4.out.c
            cases e2
            obtain ⟨cg, rfl⟩ := hg (by omega)
            clear hg
            obtain ⟨_, _, e2, _, _, _, hg⟩ := own_shape HO4.out.k
            cases e2
            obtain ⟨kg, rfl⟩ := hg (by omega)
            clear hg
            obtain ⟨c0, cf, cb⟩ := row_at HO4.out.c hx rfl
            clear hx hc HKD
            rcases Nat.eq_zero_or_pos i with rfl | hip
            · obtain rfl := g0 rfl
              obtain ⟨c4, c5, c6⟩ := row_atS HO4.out.k (g2 hk0) rfl
              rcases hdp with ⟨_, rfl⟩ | ⟨h, _⟩
              · clear g0 g1 g2 g3
                go_wp2_with fail
                refine HC.out.mono ?_
                rintro e W5 ⟨rfl, hm5⟩
                have HM5 := Lib.hid (HMR.out.trans hm5 (fun _ _ h => h))
                clear hm5 HC c0 cf cb c4 c5 c6 p0 p1 p2 p3
                go_wp2_with fail
                go_roundw
                case rel => exact ⟨0 + 1, by omega, by go_num, .inr ⟨by omega, rfl⟩, HM5.out⟩
                case measure => simp [intOf]; omega
              · omega
            · rcases hdp with ⟨h, _⟩ | ⟨_, rfl⟩
              · omega
              · obtain ⟨c4, c5, c6⟩ := row_atS HO4.out.k (g1 hip) rfl
                have hi1 : i - 1 < q.keys.length := by have := HKN.out; omega
                have hwr : IntKind.i64.wrap ((i : Int) - 1) = ((i - 1 : Nat) : Int) := (IntWalk.i64_in _ (by omega)).trans (by omega)
                by_cases hik : i < q.keys.length
                · obtain ⟨c7, c8, c9⟩ := row_atS HO4.out.k (g2 hik) rfl
                  clear g0 g1 g2 g3
                  go_wp2_with fail
                  refine HC.out.mono ?_
                  rintro e W5 ⟨rfl, hm5⟩
                  have HM5 := Lib.hid (HMR.out.trans hm5 (fun _ _ h => h))
                  clear hm5 HC c0 cf cb c4 c5 c6 p0 p1 p2 p3
                  go_wp2_with fail
                  go_roundw
                  case rel => exact ⟨i + 1, by omega, by go_num, .inr ⟨by omega, rfl⟩, HM5.out⟩
                  case measure => simp [intOf]; omega
                · obtain rfl := g3 hik
                  clear g0 g1 g2 g3
                  go_wp2_with fail
                  refine HC.out.mono ?_
                  rintro e W5 ⟨rfl, hm5⟩
                  have HM5 := Lib.hid (HMR.out.trans hm5 (fun _ _ h => h))
                  clear hm5 HC c0 cf cb c4 c5 c6 p0 p1 p2 p3
                  go_wp2_with fail
                  go_roundw
                  case rel => exact ⟨i + 1, by omega, by go_num, .inr ⟨by omega, rfl⟩, HM5.out⟩
                  case measure => simp [intOf]; omega
          · have hie : 0 < i := by have := HKN.out; omega
            rcases hdp with ⟨h, _⟩ | ⟨_, rfl⟩
            · omega
            · clear HKD
              go_wp2_with fail
              refine bodyPost_ret (v := .int .i64 (D + 1 : Nat)) (by simp [results, Try.f77, go_sem]) rfl ⟨rfl, HM3.out.trans HMR.out (fun _ _ h => h)⟩

theorem shape_calls (l p : Nat) (g : Lg) (hs : Small g 0) : ∀ d, d ≤ 100 → Shaped l p g d
  | 0, _ => shape_leaf l p g hs
  | d + 1, h => shape_node l p d g hs (by omega) (shape_calls l p g hs d (by omega))

end Go.Proofs.Ytgofngilfdnakaa

namespace Go.Proofs.Ytgofngilfdnakaa
open Go Go.RowKit
set_option linter.unusedSimpArgs false

theorem leaf_is {rd : Nat → Pg → Prop} {p : Pg} {lo : Str} {hi : Option Str} {M : Files} {k : Str} (h : RepP rd 0 p lo hi M) : kIs p.keys k = true ↔ M.get k ≠ none := by
  have hg := leaf_get (k := k) h
  constructor
  · intro hk e
    rw [e, if_pos hk] at hg
    have h1 := kIs_lt hk
    have h2 : p.vals.length = p.keys.length := by rw [h.2.2.1, h.2.2.2.1]; simp
    have := List.getElem?_eq_none_iff.1 hg.symm
    omega
  · intro hn
    cases hk : kIs p.keys k with
    | true => rfl
    | false =>
      rw [hk] at hg
      exact absurd hg hn
theorem mends_of {w w' : World} {t l p i base d : Nat} {root : Int} {g : Lg} {P : Pg} {lo lo2 : Str} {hi hi2 : Option Str} {N N2 : Files} {e : Ending} (h : Mended w t l p i base root g P d lo hi N e w') (hi0 : i < P.keys.length)
    (hf : ∀ (g' : Lg) a b kk two, Grew g g' → SplitR (rdG g') 4 d lo hi N a b kk two → RepP (rdG g') (d + 1) (P.mendKid i a b kk two) lo2 hi2 N2) : Mends w t l p base root g P.keys.length d lo2 hi2 N2 e w' := by
  obtain ⟨a, b, kk, two, kv, vv, cv, g', h1, h2, h3, h4, h5, h6, h7⟩ := h
  have hl := mendKid_len P i a b kk two hi0
  exact ⟨_, kv, vv, cv, g', h1, h2, h3, h4, h5, h6, hf g' a b kk two h4 h7, hl.1, hl.2⟩
theorem del_not (t l p : Nat) (g : Lg) (root : Int) (key : Str) (hs : Small g 0) : ∀ (d m k : Nat) (lo : Str) (hi : Option Str) (M : Files) (w : World), TL w t l p g root → Rep (rdG g) m d k lo hi M → 1 ≤ m → above lo key → below hi key → M.get key = none →
    Calls Try.prog 118 #[.pointer (some ⟨t, 0, none⟩), .int .i64 k, .string ⟨key.toArray⟩] w (DelNot w)
  | 0, m, k, lo, hi, M, w => fun hT hr h1 ha hb hn => by
    obtain ⟨_, q, hq, hm, h8, hp⟩ := hr
    refine delL_none t l p k g root q key w hT hq hp.1 hs ?_
    cases hk : kIs q.keys key with
    | false => rfl
    | true => exact absurd hn ((leaf_is hp).1 hk)
  | d + 1, m, k, lo, hi, M, w => fun hT hr h1 ha hb hn => by
    obtain ⟨_, q, hq, hm, h8, hp⟩ := hr
    obtain ⟨x, lo', hi', M2, _, hx, hrep, ha', hb', hget, _⟩ := node_del hp ha hb
    exact delN_none t l p k x g root q key w hT hq hp.1 h8 (kr_length hp.2.2.2) hx hs (fun X hX => del_not t l p g root key hs d 4 x lo' hi' M2 X hX hrep (by omega) ha' hb' (hget ▸ hn))
theorem del_there (t l p : Nat) (g : Lg) (root : Int) (key : Str) : ∀ (d m k : Nat) (lo : Str) (hi : Option Str) (M : Files) (w : World), TL w t l p g root → Rep (rdG g) m d k lo hi M → 1 ≤ m → above lo key → below hi key → M.get key ≠ none → Small g (d + 1) →
    Calls Try.prog 118 #[.pointer (some ⟨t, 0, none⟩), .int .i64 k, .string ⟨key.toArray⟩] w (Deled w t l p root g (140200 * d) m d lo hi (M.del key))
  | 0, m, k, lo, hi, M, w => fun hT hr h1 ha hb hn hs => by
    obtain ⟨_, q, hq, hm, h8, hp⟩ := hr
    exact delL_there t l p k m g root q key lo hi M w hT hq hp h8 hm hs.zero ((leaf_is hp).2 hn)
  | d + 1, m, k, lo, hi, M, w => fun hT hr h1 ha hb hn hs => by
    obtain ⟨_, q, hq, hm, h8, hp⟩ := hr
    have hkn : q.kids.length = q.keys.length + 1 := kr_length hp.2.2.2
    obtain ⟨x, y, s, lo', hi', Ma, Mb, hlt, _, hx, hy, hk, hrx, hry, hf, ho⟩ := node_both hp ha hb (by omega)
    rcases Nat.eq_zero_or_pos (kKid q.keys key) with h0 | h0
    · obtain ⟨hax, hbx, hget, hone, hfin⟩ := hf h0
      have hx0 : q.kids[kKid q.keys key]? = some x := by rw [h0] at hx ⊢; exact hx
      have hk0 : q.keys[kKid q.keys key]? = some s := by rw [h0] at hk ⊢; exact hk
      have hy0 : q.kids[1]? = some y := by rw [h0] at hy; exact hy
      have hlt0 : kKid q.keys key < q.keys.length := by omega
      obtain ⟨_, yq, hyq, hy4, hy8, hyp⟩ := hry
      refine del_walk t l p k m d (kKid q.keys key) x g root q key lo hi lo' (some s) (Ma.del key) (M.del key) w hT hq hp.1 h8 hm hkn rfl hx0 hs (fun X hX => del_there t l p g root key d 4 x lo' (some s) Ma X hX hrx (by omega) hax hbx (hget ▸ hn) (small_le hs (Nat.le_succ _))) (fun g1 r hg hr => hone _ r hg.rd hr) ?_
      intro X base g1 kv vv cv ok ov oc o hTX hg hs1 hoX hiX hro hl3 hlb htb hbX
      have hlf : o.leaf = yq.leaf := repP_leaves hro (repP_mono hg.rd hyp)
      have hj := hfin (rdG g1) o yq 0 0 [] false hg.rd hro (repP_mono hg.rd hyp)
      obtain ⟨hj4, hj12⟩ := join_lengths (a := o) (b := yq) s (by omega) (by omega)
      refine (mend_first t l p (kKid q.keys key) y d base g1 root q o yq s kv vv cv ok ov oc lo' hi' (Ma.del key ++ Mb) X h0 hTX hoX hiX (rep_ok hro (by omega) (by omega)) hlb htb hbX hy0 (hg.rd _ _ hyq) hk0 hkn h8 hp.1 hlf hj.1 hj4 hj12 hs1).mono fun e w' hM => mends_of hM hlt0 (fun g' a b kk two hg' hsp => ?_)
      have := (hfin (rdG g') o yq a b kk two (hg.trans hg').rd (repP_mono hg'.rd hro) (repP_mono (hg.trans hg').rd hyp)).2 hsp
      rw [h0] at this ⊢
      exact this
    · obtain ⟨hax, hbx, hget, hone, hfin⟩ := ho h0
      have hkk : kKid q.keys key = kKid q.keys key - 1 + 1 := by omega
      obtain ⟨_, xq, hxq, hx4, hx8, hxp⟩ := hrx
      refine del_walk t l p k m d (kKid q.keys key - 1 + 1) y g root q key lo hi s hi' (Mb.del key) (M.del key) w hT hq hp.1 h8 hm hkn hkk hy hs (fun X hX => del_there t l p g root key d 4 y s hi' Mb X hX hry (by omega) hax hbx (hget ▸ hn) (small_le hs (Nat.le_succ _))) (fun g1 r hg hr => by rw [← hkk]; exact hone _ r hg.rd hr) ?_
      intro X base g1 kv vv cv ok ov oc o hTX hg hs1 hoX hiX hro hl3 hlb htb hbX
      have hlf : o.leaf = xq.leaf := repP_leaves hro (repP_mono hg.rd hxp)
      have hj := hfin (rdG g1) o xq 0 0 [] false hg.rd hro (repP_mono hg.rd hxp)
      obtain ⟨hj4, hj12⟩ := join_lengths (a := xq) (b := o) s (by omega) (by omega)
      exact (mend_other t l p (kKid q.keys key - 1) x d base g1 root q o xq s kv vv cv ok ov oc lo' hi' (Ma ++ Mb.del key) X hTX hoX hiX (rep_ok hro (by omega) (by omega)) hlb htb hbX hx (hg.rd _ _ hxq) hk hkn h8 hp.1 hlf hj.1 hj4 hj12 hs1).mono fun e w' hM => mends_of hM hlt (fun g' a b kk two hg' hsp =>
        (hfin (rdG g') o xq a b kk two (hg.trans hg').rd (repP_mono hg'.rd hro) (repP_mono (hg.trans hg').rd hxp)).2 hsp)

end Go.Proofs.Ytgofngilfdnakaa

namespace Go.Proofs.Ytgofngilfdnakaa
open Go Go.RowKit
set_option linter.unusedSimpArgs false
attribute [local go_sem] over_cell over_frozen lt_over le_over noB loudUpon ByteArray.mk_append_mk ByteArray.extract_mk

theorem depth_d {d : Nat} (h : d ≤ 3) : 140200 * d ≤ 420600 := Nat.mul_le_mul_left 140200 h
theorem deled_small {g g' : Lg} (h : Small g 6) (hg : Grew g g') (hn : g'.wait.length ≤ g.wait.length + 420600) : Small g' 1 := h.grew hg (Nat.le_trans hn (Nat.add_le_add_left (by decide) _))

set_option maxRecDepth 100000 in
set_option maxHeartbeats 3200000 in
theorem Delete_none (t l p : Nat) (g : Lg) (key : Str) (w : World) (h : TL w t l p g (-1)) : Calls Try.prog 74 #[.pointer (some ⟨t, 0, none⟩), .string ⟨key.toArray⟩] w fun e w' => e = .returned (.tuple #[.bool false, .int .i64 0]) ∧ Mod NoB w w' := by
  obtain ⟨tb, t0, t1, tf⟩ := h.tree.facts
  clear h
  go_enter Try.func74, Try.ntmps74
  go_wp2_with fail
  exact bodyPost_ret (v := .tuple #[.bool false, .int .i64 0]) (by simp [results, Try.f74, go_sem]) rfl ⟨rfl, Mod.refl _ _⟩

set_option maxRecDepth 100000 in
set_option maxHeartbeats 3200000 in
theorem Delete_not (t l p r : Nat) (g : Lg) (key : Str) (w : World) (h : TL w t l p g r) (HD : Calls Try.prog 118 #[.pointer (some ⟨t, 0, none⟩), .int .i64 r, .string ⟨key.toArray⟩] w (DelNot w)) : Calls Try.prog 74 #[.pointer (some ⟨t, 0, none⟩), .string ⟨key.toArray⟩] w fun e w' => e = .returned (.tuple #[.bool false, .int .i64 0]) ∧ Mod NoB w w' := by
  have HDX := Lib.hid HD
  obtain ⟨tb, t0, t1, tf⟩ := h.tree.facts
  clear h HD
  go_enter Try.func74, Try.ntmps74
  go_wp2_with fail
  refine HDX.out.mono ?_
  rintro e W1 ⟨rfl, hm1⟩
  have HM1 := Lib.hid hm1
  clear hm1 HDX
  go_wp2_with fail
  refine bodyPost_ret (v := .tuple #[.bool false, .int .i64 0]) (by simp [results, Try.f74, go_sem]) rfl ⟨rfl, ?_⟩
  exact HM1.out.trans (by (repeat (first | with_reducible exact Mod.refl _ _ | with_reducible refine Mod.drew ?_ | with_reducible refine Mod.alloc ?_ _))) (fun _ _ h => h)

set_option maxRecDepth 100000 in
set_option maxHeartbeats 6400000 in
theorem Delete_there (t l p d r : Nat) (g : Lg) (key : Str) (M : Files) (w : World) (h : TL w t l p g r) (hd : d ≤ 3) (hs : Small g 6) (HD : Calls Try.prog 118 #[.pointer (some ⟨t, 0, none⟩), .int .i64 r, .string ⟨key.toArray⟩] w (Deled w t l p r g (140200 * d) 1 d [] none (M.del key))) :
    Calls Try.prog 74 #[.pointer (some ⟨t, 0, none⟩), .string ⟨key.toArray⟩] w (TreePost w t l p g 700000 (.tuple #[.bool true, .int .i64 0]) (M.del key)) := by
  have HDX := Lib.hid HD
  have HS := Lib.hid hs
  have HLL : Hid (l < w.heap.size) := lt_heap h.log
  have HTL : Hid (t < w.heap.size) := lt_heap h.tree
  have hne := h.ne
  have HDD := Lib.hid hd
  obtain ⟨tb, t0, t1, tf⟩ := h.tree.facts
  clear h HD hs hd
  go_enter Try.func74, Try.ntmps74
  go_wp2_with fail
  refine HDX.out.mono ?_
  clear HDX
  rintro e W5 ⟨q, kv, vv, cv, g1, rfl, hm5, hT5, hg5, hn5, ho5, hr5, hml5, hm85⟩
  obtain ⟨⟨a1, c1, rfl⟩, ⟨a2, c2, rfl⟩, a3, c3, rfl⟩ := ho5.shapes
  have HN5 : Hid (g1.wait.length ≤ g.wait.length + 420600) := Nat.le_trans hn5 (Nat.add_le_add_left (depth_d HDD.out) _)
  unfold pageV
  generalize holf : q.leaf = lf at *
  obtain ⟨W6, hW6⟩ : ∃ W6, W5.alloc (.cells #[.bool lf, .slice a1 q.keys.length c1, .slice a2 q.vals.length c2, .slice a3 q.kids.length c3] 195) = W6 := ⟨_, rfl⟩
  have hm6 : Mod NoB W5 W6 := by rw [← hW6]; exact (Mod.refl _ _).alloc _
  have hS6 : W6.heap[W5.heap.size]? = some (.cells #[.bool lf, .slice a1 q.keys.length c1, .slice a2 q.vals.length c2, .slice a3 q.kids.length c3] 195 (0, 0)) := by rw [← hW6]; exact heap_alloc_new _ _
  have HM6 := Lib.hid (hm5.trans hm6 (fun _ _ h => h.elim))
  have HT6 := Lib.hid (hT5.mod hm6)
  have HO6 := Lib.hid (ho5.mod hm6)
  clear tb t0 t1 tf
  obtain ⟨tb, t0, t1, tf⟩ := HT6.out.tree.facts
  obtain ⟨sb, s0, s1, s2, s3, sf⟩ := Page4.facts hS6
  have HG5 := Lib.hid hg5
  have HR5 := Lib.hid hr5
  have HOLF := Lib.hid holf
  have hsz5 : w.heap.size ≤ W5.heap.size := hm5.size
  have hts : t ≠ W5.heap.size := by have := HTL.out; omega
  clear hS6 hm5 hm6 hT5 hg5 hn5 ho5 hr5 holf
  by_cases hk0 : q.keys.length = 0
  · have hrn := root_none HR5.out hk0
    have HRN := Lib.hid hrn
    have hkb : (((q.keys.length : Nat) : Int) == 0) = true := by rw [hk0]; rfl
    clear hrn hk0
    cases lf
    · obtain ⟨x, d', hkx, hrx⟩ := HRN.out.2 HOLF.out
      have HRX := Lib.hid hrx
      have hx0 : q.kids[0]? = some x := by rw [hkx]; rfl
      have hkl : q.kids.length = 1 := by rw [hkx]; rfl
      obtain ⟨_, _, e2, _, _, _, hg⟩ := own_shape HO6.out.c
      cases e2
      obtain ⟨cg, rfl⟩ := hg (by omega)
      clear hg
      obtain ⟨c0, cf, cb⟩ := row_at HO6.out.c hx0 rfl
      have hkl0 : 0 < q.kids.length := by omega
      clear hrx hx0 hkx hkl
      go_wp2_with fail
      refine at_world6 (P := bodyPost _ _ _ _ _) (fun X => ∃ Z, Mod NoB W6 Z ∧ X = Z.setCell ⟨t, 1, none⟩ (.int .i64 x)) ⟨_, (by (repeat (first | with_reducible exact Mod.refl _ _ | with_reducible refine Mod.drew ?_ | with_reducible refine Mod.alloc ?_ _))), rfl⟩ ?_
      rintro _ ⟨Z, hmZ, rfl⟩
      have HY := Lib.hid ((HT6.out.mod hmZ).rooted x)
      have HMY := Lib.hid (((HM6.out.mono (fun _ _ h => .inl h)).trans hmZ (fun j hj e => e.elim)).trans (show Mod (fun k => k = l ∨ k = t) Z (Z.setCell ⟨t, 1, none⟩ (.int .i64 x)) from (Mod.refl _ _).setCell _ _ (fun _ => .inr rfl)) (fun _ _ h => h))
      refine bodyPost_ret (v := .tuple #[.bool true, .int .i64 0]) (by simp [results, Try.f74, go_sem]) rfl ?_
      exact ⟨_, _, rfl, HMY.out, HY.out, HG5.out, by have := HN5.out; omega, .inr ⟨d', x, rfl, rep_less (by omega) HRX.out⟩⟩
    · have HMN := Lib.hid (HRN.out.1 HOLF.out)
      go_wp2_with fail
      refine at_world6 (P := bodyPost _ _ _ _ _) (fun X => ∃ Z, Mod NoB W6 Z ∧ X = Z.setCell ⟨t, 1, none⟩ (.int .i64 (-1))) ⟨_, (by (repeat (first | with_reducible exact Mod.refl _ _ | with_reducible refine Mod.drew ?_ | with_reducible refine Mod.alloc ?_ _))), rfl⟩ ?_
      rintro _ ⟨Z, hmZ, rfl⟩
      have HY := Lib.hid ((HT6.out.mod hmZ).rooted (-1))
      have HMY := Lib.hid (((HM6.out.mono (fun _ _ h => .inl h)).trans hmZ (fun j hj e => e.elim)).trans (show Mod (fun k => k = l ∨ k = t) Z (Z.setCell ⟨t, 1, none⟩ (.int .i64 (-1))) from (Mod.refl _ _).setCell _ _ (fun _ => .inr rfl)) (fun _ _ h => h))
      refine bodyPost_ret (v := .tuple #[.bool true, .int .i64 0]) (by simp [results, Try.f74, go_sem]) rfl ?_
      exact ⟨_, _, rfl, HMY.out, HY.out, HG5.out, by have := HN5.out; omega, .inl ⟨rfl, HMN.out⟩⟩
  · have hk1 : 1 ≤ q.keys.length := by omega
    have hok := rep_ok HR5.out hk1 hm85
    have hsm := deled_small HS.out HG5.out HN5.out
    have HSV := Lib.hid (fun X (hX : Mod NoB W6 X) => save_calls t l p g1 r q _ _ _ X (HT6.out.mod hX) ((HO6.out.mod hX).in1 (p := q)) hok hsm.zero)
    have HRR := Lib.hid (rep_less hk1 (keep_one HR5.out hk1 hm85 (Nat.le_trans hsm.top (by omega))))
    have HLN := Lib.hid (lay_size (g := g1) hok)
    unfold pageV at HSV
    rw [HOLF.out] at HSV
    have hkb : (((q.keys.length : Nat) : Int) == 0) = false := by
      rw [beq_eq_false_iff_ne]
      omega
    clear hok hsm hk0 hk1
    go_wp2_with fail
    refine (HSV.out _ (Mod.refl _ _)).mono ?_
    rintro e W7 ⟨rfl, hm7, hT7⟩
    have HM7 := Lib.hid (HM6.out.trans hm7 (fun _ _ h => h))
    have HT7 := Lib.hid hT7
    clear hm7 hT7 tb t0 t1 tf s0 s1 s2 s3 sf sb hW6 HM6 HT6 HSV
    obtain ⟨tb, t0, t1, tf⟩ := HT7.out.tree.facts
    go_wp2_with fail
    refine at_world6 (P := bodyPost _ _ _ _ _) (fun X => ∃ Z, Mod NoB W7 Z ∧ X = Z.setCell ⟨t, 1, none⟩ (.int .i64 g1.top')) ⟨_, (by (repeat (first | with_reducible exact Mod.refl _ _ | with_reducible refine Mod.drew ?_ | with_reducible refine Mod.alloc ?_ _))), rfl⟩ ?_
    rintro _ ⟨Z, hmZ, rfl⟩
    have HY := Lib.hid ((HT7.out.mod hmZ).rooted g1.top')
    have HMY := Lib.hid (((HM7.out.mono (fun _ _ h => .inl h)).trans hmZ (fun j hj e => e.elim)).trans (show Mod (fun k => k = l ∨ k = t) Z (Z.setCell ⟨t, 1, none⟩ (.int .i64 g1.top')) from (Mod.refl _ _).setCell _ _ (fun _ => .inr rfl)) (fun _ _ h => h))
    refine bodyPost_ret (v := .tuple #[.bool true, .int .i64 0]) (by simp [results, Try.f74, go_sem]) rfl ?_
    exact ⟨_, _, rfl, HMY.out, HY.out, HG5.out.trans (Grew.lay _ _), by have := HN5.out; have := HLN.out; omega, .inr ⟨d, _, rfl, HRR.out⟩⟩

theorem TDelete_calls (t l p : Nat) (g : Lg) (root : Int) (key : Str) (M : Files) (w : World) (h : TL w t l p g root) (hr : TR g root M) (hM : M.length ≤ 400) (hs : Small g 6) :
    Calls Try.prog 74 #[.pointer (some ⟨t, 0, none⟩), .string ⟨key.toArray⟩] w (TreePost w t l p g 700000 (.tuple #[.bool (M.get key).isSome, .int .i64 0]) (M.del key)) := by
  rcases hr with ⟨rfl, rfl⟩ | ⟨d, r, rfl, hr⟩
  · exact (Delete_none t l p g key w h).mono fun e w' ⟨h1, h2⟩ => ⟨-1, g, h1, h2.mono (noB_sub _ _), h.mod h2, Grew.refl g, Nat.le_add_right _ _, .inl ⟨rfl, rfl⟩⟩
  · have hd := TR.shallow hr hM
    cases hg : M.get key with
    | none =>
      refine (Delete_not t l p r g key w h (del_not t l p g r key hs.zero d 1 r [] none M w h hr (Nat.le_refl _) (above_nil _) trivial hg)).mono fun e w' ⟨h1, h2⟩ => ⟨r, g, h1, h2.mono (noB_sub _ _), h.mod h2, Grew.refl g, Nat.le_add_right _ _, .inr ⟨d, r, rfl, ?_⟩⟩
      rw [del_same hg]
      exact hr
    | some v => exact Delete_there t l p d r g key M w h hd hs (del_there t l p g r key d 1 r [] none M w h hr (Nat.le_refl _) (above_nil _) trivial (by rw [hg]; exact fun e => by cases e) (small_le hs (by omega)))

end Go.Proofs.Ytgofngilfdnakaa

namespace Go.Proofs.Ytgofngilfdnakaa
open Go Go.ChangeShapes Go.WideShapes Go.ChangeAt Go.RowKit

/-- All arguments read as they did. -/
theorem trodAll_stays {H : Type} {enc : TypeId × Value → H} {P : Program} (hl : laidOutB P = true) {W W' : World} (hb : Below W.heap.size W W') {sp : Nat → Bool} :
    ∀ {ts : List TypeId} {vs : List Value} {ds : List (DataW H)} {ps : List MemPlace}, (∀ t ∈ ts, P.readableRec t = true ∧ t < P.types.size) → DataW.TrodAll enc P W 0 (fun _ => true) true ts vs ds ps →
    (∀ p ∈ ps, p.block < W.heap.size) → (∀ p ∈ ps, sp p.block = true) → DataW.TrodAll enc P W' 0 sp true ts vs ds ps
  | [], _, _, _, _, h, _, _ => by
    obtain ⟨rfl, rfl, rfl⟩ := trodAll_nil h
    exact trodAll_mk0
  | t :: ts, _, _, _, ht, h, hlt, hs => by
    obtain ⟨v, vs1, d, ds1, a, b, rfl, rfl, rfl, h1, h2⟩ := trodAll_cons h
    have h3 := ht t List.mem_cons_self
    exact trodAll_cons_mk (WideElems.Trod_stays hl h3.1 h3.2 h1 (fun x hx => hb.same (hlt x (List.mem_append_left _ hx))) (fun x hx => hs x (List.mem_append_left _ hx)))
      (trodAll_stays hl hb (fun t ht' => ht t (List.mem_cons_of_mem _ ht')) h2 (fun x hx => hlt x (List.mem_append_right _ hx)) (fun x hx => hs x (List.mem_append_right _ hx)))

theorem below_frozen {w w' : World} (hb : Below w.heap.size w w') {b off : Nat} (h : b < w.heap.size) : w'.frozen? ⟨b, off, none⟩ = w.frozen? ⟨b, off, none⟩ :=
  World.frozen?_of_block (w := w) (hb.block b h)

/-- A call that lays new blocks alone: what its row says of what lies behind it. -/
theorem post_of_below {H : Type} {enc : TypeId × Value → H} {P : Program} {f : Func} {s : ChangeSpec} {apart fresh handsOn again : Bool} {W W' : World} {args : Array Value} {v : Value} {ds gs : List (DataW H)} {before : List MemPlace}
    (hl : laidOutB P = true) (ht : ∀ t ∈ f.params.toList, P.readableRec t = true ∧ t < P.types.size) (hvs : s.vars = [])
    (hW : DataW.Whole enc P f.params.toList s.vars apart W args.toList ds gs before) (hb : Below W.heap.size W W')
    (hres : ∀ (b : Nat) (sp : Nat → Bool) (hd : Bool), DataW.TrodAll enc P W' b sp hd f.resultTypes.toList (v.resultList f.resultTypes.size) (s.fn H (ds ++ gs)).results [])
    (hargs : (s.fn H (ds ++ gs)).args = ds) (hvars : (s.fn H (ds ++ gs)).vars = gs)
    (hok : ∀ (j : Nat) (t : TypeId) (r : Value), f.resultTypes[j]? = some t → (v.resultList f.resultTypes.size)[j]? = some r → Value.okWide P W' .any 0 t r) :
    s.post enc P f apart fresh handsOn again W args v W' := by
  have hlt := hW.lt
  have hW' := hW
  obtain ⟨p, q, hA, hV, rfl, hz, hn⟩ := hW
  rw [hvs] at hV
  obtain ⟨rfl, rfl⟩ := trodVars_none hV
  rw [List.append_nil] at hW' hlt hz hn
  have hold : ∀ x ∈ p, (fun b => decide (b < W.heap.size)) x.block = true := fun x hx => by simpa using hlt x hx
  have hA' : ∀ sp : Nat → Bool, (∀ x ∈ p, sp x.block = true) → DataW.TrodAll enc P W' 0 sp true f.params.toList args.toList (s.fn H (ds ++ [])).args p := fun sp hsp => by
    rw [hargs]; exact trodAll_stays hl hb ht hA hlt hsp
  have hV' : ∀ sp : Nat → Bool, DataW.TrodVars enc P W' sp s.vars (s.fn H (ds ++ [])).vars [] := fun sp => by rw [hvars, hvs]; exact rfl
  have hk : W.keptBut W' (· ∈ p) := ⟨hb.os, hb.output, fun i hi => by rw [hb.block i hi]; exact (World.keptBut_refl W (· ∈ p)).2.2 i hi⟩
  refine ⟨ds, [], p, [], p, [], hW', hres _ _ _, hA' _ hold, hV' _, World.keptBut_mono (fun x hx => ⟨hx, Or.inr (by simpa using hx)⟩) hk, fun _ => ?_⟩
  refine ⟨hok, _, _, ([] ++ p) ++ [], ⟨[] ++ p, [], trodAll_append (hA' _ (fun _ _ => rfl)) (hres _ _ _), hV' _, rfl, ?_, ?_⟩, ?_⟩
  · intro b off hp
    have hp' : MemPlace.cell b off ∈ p := by simpa using hp
    have hlt2 : b < W.heap.size := hlt _ hp'
    rw [below_frozen hb hlt2]
    exact hz b off hp'
  · intro ha
    simpa using hn ha
  · intro x hx _
    simpa using hx

end Go.Proofs.Ytgofngilfdnakaa

namespace Go.Proofs.Ytgofngilfdnakaa
open Go Go.ChangeShapes Go.WideShapes Go.ChangeAt Go.RowKit

/-- What is done to a tree. -/
structure Act6 where
  kind : Int
  key : Str
  value : Str
def Acts6In (w : World) (v : Value) (ls : List Act6) : Prop := ∃ a cap, v = .slice a ls.length cap ∧ ls.length ≤ cap ∧ cap ≤ maxLen ∧ ∀ i, (hi : i < ls.length) → ∃ b o, a = some ⟨b, o, none⟩ ∧ b < w.heap.size ∧
  w.cell? ⟨b, o + i * 3, none⟩ = some (.int .i64 ls[i].kind) ∧ w.cell? ⟨b, o + i * 3 + 1, none⟩ = some (.string ⟨ls[i].key.toArray⟩) ∧ w.cell? ⟨b, o + i * 3 + 2, none⟩ = some (.string ⟨ls[i].value.toArray⟩) ∧
  ls[i].key.length ≤ 9223372036854775807 ∧ ls[i].value.length ≤ 9223372036854775807
theorem a6_cell_lt {w : World} {a : Addr} {v : Value} (h : w.cell? a = some v) : a.block < w.heap.size := by
  rcases Nat.lt_or_ge a.block w.heap.size with h1 | h1
  · exact h1
  · unfold World.cell? at h
    rw [Array.getElem?_eq_none h1] at h
    cases h
theorem a6_list3 {cs : List Value} (h : cs.length = 3) : ∃ c0 c1 c2, cs = [c0, c1, c2] := by
  match cs, h with
  | [c0, c1, c2], _ => exact ⟨c0, c1, c2, rfl⟩
theorem a6_size (s : ByteArray) : (⟨s.data.toList.toArray⟩ : ByteArray) = s := rfl
abbrev a6Cells (A : Act6) : List Value := [.int .i64 A.kind, .string ⟨A.key.toArray⟩, .string ⟨A.value.toArray⟩]

set_option maxRecDepth 100000 in
/-- What is done, taken apart. -/
theorem act6_of_trod {H : Type} {enc : TypeId × Value → H} {W : World} {b0 fuel : Nat} {cs : List Value} {x : DataW H × List MemPlace} (hsz : cs.length = 3) (hfu : DataW.trod enc Try.prog W b0 (fun _ => true) true fuel 120 cs = some x) :
    ∃ (A : Act6), cs = a6Cells A ∧ A.key.length ≤ 9223372036854775807 ∧ A.value.length ≤ 9223372036854775807 := by
  have hi : Try.prog.cellsOf 3 = 1 := by kernel_rfl
  have hs : Try.prog.cellsOf 9 = 1 := by kernel_rfl
  obtain ⟨c0, c1, c2, rfl⟩ := a6_list3 hsz
  obtain ⟨xs, n, _, _, _, hlen, hx⟩ := DataW.trod_struct Try.underlying120 hfu
  have hlen3 : xs.length = 3 := hlen
  have get : ∀ i, i < 3 → ∃ y, xs[i]? = some y := fun i h => ⟨xs[i]'(by omega), List.getElem?_eq_getElem (by omega)⟩
  obtain ⟨y0, g0⟩ := get 0 (by omega)
  obtain ⟨y1, g1⟩ := get 1 (by omega)
  obtain ⟨y2, g2⟩ := get 2 (by omega)
  have h0 := (hx 0 _ rfl).trans g0
  have h1 := (hx 1 _ rfl).trans g1
  have h2 := (hx 2 _ rfl).trans g2
  simp only [List.getElem_toArray, List.getElem_cons_zero, List.getElem_cons_succ, hi, hs, List.drop_zero, List.drop_succ_cons, List.take_succ_cons, List.take_zero] at h0 h1 h2
  obtain ⟨k, e0, _, _⟩ := DataW.trod_int Try.underlying3 h0
  obtain ⟨a, e1, _, wa⟩ := DataW.trod_string Try.underlying9 h1
  obtain ⟨b, e2, _, wb⟩ := DataW.trod_string Try.underlying9 h2
  simp only [List.cons.injEq, and_true] at e0 e1 e2
  subst e0 e1 e2
  rw [maxLen_eq] at wa wb
  exact ⟨⟨k, a.data.toList, b.data.toList⟩, by simp only [a6Cells, a6_size], wa, wb⟩

set_option maxRecDepth 100000 in
theorem open_acts6 {H : Type} {enc : TypeId × Value → H} {W : World} {r : Reach} {b0 : Nat} {v : Value} {d : DataW H} {ps : List MemPlace} (hval : Value.okWide Try.prog W r b0 115 v) (hd : DataW.Trod enc Try.prog W 0 (fun _ => true) true 115 v d ps) : ∃ ls, Acts6In W v ls := by
  have hc : Try.prog.cellsOf 120 = 3 := by kernel_rfl
  obtain ⟨a0, len, cap, rfl⟩ := okWide_slice Try.underlying115 hval
  obtain ⟨fuel, hf⟩ := hd
  rcases DataW.trod_slice Try.underlying115 hf with ⟨hcs, hx⟩ | ⟨a, len', cap', elems, rest, n, _, hcs, _, hb, hl, hm, hlen, hel, _, _⟩
  · simp [Value.cells] at hcs
    obtain ⟨rfl, rfl, rfl⟩ := hcs
    exact ⟨[], none, 0, rfl, Nat.le_refl _, by rw [maxLen_eq]; omega, fun i hi => absurd hi (Nat.not_lt_zero _)⟩
  · simp [Value.cells] at hcs
    obtain ⟨rfl, rfl, rfl⟩ := hcs
    have each : ∀ i, i < len → ∃ A : Act6, (∀ j, j < 3 → W.cell? ((a.add (i * 3)).add j) = (a6Cells A)[j]?) ∧ A.key.length ≤ 9223372036854775807 ∧ A.value.length ≤ 9223372036854775807 := fun i hi => by
      have h1 := hel i hi
      rw [hc, List.getElem?_eq_getElem (by omega), Option.bind_eq_some_iff] at h1
      obtain ⟨cs, h2, h3⟩ := h1
      obtain ⟨_, h4, h5⟩ := World.cells?_some h2
      obtain ⟨A, rfl, h6⟩ := act6_of_trod h4 h3
      exact ⟨A, h5, h6⟩
    obtain ⟨b, off, spot⟩ := a
    refine ⟨(List.range len).attach.map (fun i => Classical.choose (each i.1 (List.mem_range.1 i.2))), some ⟨b, off, spot⟩, cap, by simp, by simpa using hl, hm, fun i hi => ?_⟩
    have hi' : i < len := by simpa using hi
    have hA := Classical.choose_spec (each i hi')
    simp only [List.getElem_map, List.getElem_attach, List.getElem_range]
    generalize Classical.choose (each i hi') = A at *
    obtain ⟨h1, h2⟩ := hA
    have hspot : spot = none := by
      obtain ⟨A0, h0, _⟩ := each 0 (by omega)
      simpa [Addr.add] using World.cell?_spot (h0 0 (by omega))
    subst hspot
    have at_ : ∀ j, j < 3 → W.cell? ⟨b, off + i * 3 + j, none⟩ = (a6Cells A)[j]? := fun j hj => by
      have := h1 j hj
      rwa [Addr.add_mid, Addr.add_mid] at this
    exact ⟨b, off, rfl, a6_cell_lt (at_ 0 (by omega)), at_ 0 (by omega), at_ 1 (by omega), at_ 2 (by omega), h2⟩

end Go.Proofs.Ytgofngilfdnakaa

namespace Go.Proofs.Ytgofngilfdnakaa
open Go Go.RowKit
set_option linter.unusedSimpArgs false
attribute [local go_sem] over_cell over_frozen lt_over le_over noB loudUpon ByteArray.mk_append_mk ByteArray.extract_mk

/-- A tree after k doings. -/
def BS (w wr : World) (t l : Nat) (k : Nat) : Prop := ∃ p g root M, TL wr t l p g root ∧ Mod NoB w wr ∧ TR g root M ∧ M.length ≤ k ∧ g.s.length + g.wait.length ≤ 700000 * k
theorem BS.small {g : Lg} {k : Nat} (h : g.s.length + g.wait.length ≤ 700000 * k) (hk : k ≤ 300) : Small g 6 := by
  unfold Small
  omega
theorem bs_next {w wr w' : World} {t l p k : Nat} {g : Lg} {M M' : Files} {u : Value} {e : Ending} (hm : Mod NoB w wr) (ht : w.heap.size ≤ t) (hl : w.heap.size ≤ l) (hw : g.s.length + g.wait.length ≤ 700000 * k) (hM : M.length ≤ k) (hM' : M'.length ≤ M.length + 1) (h : TreePost wr t l p g 700000 u M' e w') : e = .returned u ∧ BS w w' t l (k + 1) := by
  obtain ⟨root', g', h1, h2, h3, h4, h5, h6⟩ := h
  obtain ⟨x, rfl⟩ := h4
  refine ⟨h1, p, _, root', M', h3, hm.trans h2 (fun j hj e => by omega), h6, by omega, ?_⟩
  simp only at h5 ⊢
  omega
/-- Anything that is done. -/
theorem bs_put {w wr : World} {t l k : Nat} {key v : Str} (h : BS w wr t l k) (hk : k ≤ 300) (ht : w.heap.size ≤ t) (hl : w.heap.size ≤ l) (h1 : key.length ≤ 9223372036854775807) (h2 : v.length ≤ 9223372036854775807) :
    Calls Try.prog 75 #[.pointer (some ⟨t, 0, none⟩), .string ⟨key.toArray⟩, .string ⟨v.toArray⟩] wr fun e w' => ∃ u, e = .returned u ∧ BS w w' t l (k + 1) := by
  obtain ⟨p, g, root, M, hT, hm, hr, hM, hw⟩ := h
  refine (Put_any t l p g root key v M wr hT hr (by omega) (BS.small hw hk) h1 h2).mono fun e w' hp => ⟨_, bs_next hm ht hl hw hM ?_ hp⟩
  split
  · exact put_length M key v
  · omega
theorem bs_del {w wr : World} {t l k : Nat} {key : Str} (h : BS w wr t l k) (hk : k ≤ 300) (ht : w.heap.size ≤ t) (hl : w.heap.size ≤ l) :
    Calls Try.prog 74 #[.pointer (some ⟨t, 0, none⟩), .string ⟨key.toArray⟩] wr fun e w' => ∃ u, e = .returned u ∧ BS w w' t l (k + 1) := by
  obtain ⟨p, g, root, M, hT, hm, hr, hM, hw⟩ := h
  exact (TDelete_calls t l p g root key M wr hT hr (by omega) (BS.small hw hk)).mono fun e w' hp => ⟨_, bs_next hm ht hl hw hM (Nat.le_trans (del_length M key) (Nat.le_succ _)) hp⟩
/-- The root, and its shape. -/
theorem bs_root {w wr : World} {t l k : Nat} (h : BS w wr t l k) (hk : k ≤ 300) : ∃ root : Int, (∀ X, Mod NoB wr X → Calls Try.prog 76 #[.pointer (some ⟨t, 0, none⟩)] X fun e w' => e = .returned (.int .i64 root) ∧ X = w') ∧
    (root = -1 ∨ (∃ (r d : Nat), root = (r : Int) ∧ ∀ X, Mod NoB wr X → Calls Try.prog 77 #[.pointer (some ⟨l, 0, none⟩), .int .i64 r, .bool true, .string ⟨#[]⟩, .string ⟨#[]⟩] X fun e w' => e = .returned (.int .i64 (d + 1 : Nat)) ∧ Mod NoB X w')) := by
  obtain ⟨p, g, root, M, hT, hm, hr, hM, hw⟩ := h
  refine ⟨root, fun X hX => TRoot_calls t l p g root X (hT.mod hX), ?_⟩
  rcases hr with ⟨h1, _⟩ | ⟨d, r, h1, h2⟩
  · exact .inl h1
  · refine .inr ⟨r, d, h1, fun X hX => ?_⟩
    exact shape_calls l p g (BS.small hw hk).zero d (Nat.le_trans (TR.shallow h2 (by omega)) (by omega)) r 1 true [] [] none M X (hT.mod hX).log h2 (Nat.le_refl _) (fun e => by cases e) (.inl ⟨rfl, rfl⟩)
theorem BS.quiet {w wr X : World} {t l k : Nat} (h : BS w wr t l k) (hX : Mod NoB wr X) : BS w X t l k := by
  obtain ⟨p, g, root, M, hT, hm, hr, hM, hw⟩ := h
  exact ⟨p, g, root, M, hT.mod hX, hm.trans hX (fun _ _ h => h), hr, hM, hw⟩

set_option maxRecDepth 100000 in
set_option maxHeartbeats 12800000 in
theorem BtreeShapes_calls (v : Value) (ls : List Act6) (w : World) (h : Acts6In w v ls) :
    Calls Try.prog 13 #[v] w fun e w' => e = .returned (.bool true) ∧ Mod NoB w w' := by
  obtain ⟨a, cap, rfl, hcap, hmax, hc⟩ := h
  have HC := Lib.hid hc
  rw [maxLen_eq] at hmax
  clear hc
  go_enter Try.func13, Try.ntmps13
  go_wp2_with fail
  refine (fresh_calls w).mono ?_
  rintro e W1 ⟨t, l, p, rfl, hm1, ht1, htw, hlw⟩
  have HB1 : Hid (BS w W1 t l 0) := ⟨p, emptyLog, -1, [], ht1, hm1, .inl ⟨rfl, rfl⟩, Nat.le_refl _, by decide⟩
  clear hm1 ht1
  go_wp2_with fail
  refine (awake6_calls W1).mono ?_
  rintro e W2 ⟨rfl, hm2⟩
  have HB2 := Lib.hid (HB1.out.quiet hm2)
  clear hm2 HB1
  go_wp2_with fail
  go_loopw [6] (fun i wr => ∃ k : Nat, k ≤ ls.length ∧ k ≤ 300 ∧ i = .int .i64 k ∧ Hid (BS w wr t l k)) (fun i _ => ls.length - (intOf i).toNat)
  case atStart => exact ⟨0, by omega, by omega, rfl, HB2⟩
  case round =>
    obtain ⟨k, hkl, hk300, rfl, HREL⟩ := hrel
    by_cases hlt : k < ls.length ∧ k < 300
    · obtain ⟨hlt, hlt3⟩ := hlt
      obtain ⟨ba, q, rfl, hba, e0, e1, e2, hs1, hs2⟩ := HC.out k hlt
      have hM : Mod NoB w wr := by obtain ⟨_, _, _, _, _, hm, _⟩ := HREL.out; exact hm
      have f1 := e1
      have f2 := e2
      rw [← World.cell?_of_block (w := w) (hM.block ba hba id)] at e0 e1 e2
      have hbw := Nat.lt_of_lt_of_le hba hM.size
      generalize ls[k] = A at *
      obtain ⟨kind, key, val⟩ := A
      simp only at e0 e1 e2 f1 f2 hs1 hs2
      have HPU : Hid (∀ X, Mod NoB wr X → Calls Try.prog 75 #[.pointer (some ⟨t, 0, none⟩), .string ⟨key.toArray⟩, .string ⟨val.toArray⟩] X fun e w' => ∃ u, e = .returned u ∧ BS w w' t l (k + 1)) := fun X hX => bs_put (HREL.out.quiet hX) (by omega) htw hlw hs1 hs2
      have HDE := Lib.hid (bs_del (key := key) HREL.out (by omega) htw hlw)
      clear HB2 hM
      go_upto_region 7 with fail
      go_cut [41] from 18 (fun v41 wx => wx = wr ∧ ∃ b, v41 = .bool b)
      case first =>
        by_cases q3 : kind = 3
        · subst q3
          go_wp2_with fail
          go_meet
          exact ⟨rfl, _, rfl⟩
        · by_cases q4 : kind = 4
          · subst q4
            go_wp2_with fail
            go_meet
            exact ⟨rfl, _, rfl⟩
          · go_wp2_with fail
            go_meet
            exact ⟨rfl, _, rfl⟩
      case rest =>
        obtain ⟨rfl, b, rfl⟩ := hcut
        go_upto_if 41 with fail
        go_cut [] from 18 (fun wx => Hid (BS w wx t l (k + 1)))
        case first =>
          rename_i J1 K1 hJ1 hK1
          cases b
          · go_wp2_with fail
            go_upto_region 9 with fail
            refine wp_region_front (fun w' => w'.cell? ⟨ba, q + k * 3 + 1, none⟩ = some (.string ⟨key.toArray⟩) ∧ w'.cell? ⟨ba, q + k * 3 + 2, none⟩ = some (.string ⟨val.toArray⟩)) (notIn []) (by kernel_rfl) ?_ (fun hHeld => ?_)
            · go_keep
            refine wpAnyF_takeT (i := 0) (v := ?_) rfl (by kernel_rfl) (by kernel_rfl) (by kernel_rfl) (by kernel_rfl) (fun _ _ _ h => h) (Or.inl ⟨by rfl, ?_⟩) hHeld ?_
            rotate_left
            · (intro wS; simp only [List.getElem_toArray, List.getElem_cons_zero]; go_simp; try with_reducible rfl)
            simp only [Act.put, List.getElem_toArray, List.getElem_cons_zero, List.setIfInBounds_toArray, List.set_cons_zero, List.set_cons_succ]
            refine wpAnyF_takeT (i := 1) (v := ?_) rfl (by kernel_rfl) (by kernel_rfl) (by kernel_rfl) (by kernel_rfl) (fun _ _ _ h => h) (Or.inl ⟨by rfl, ?_⟩) hHeld ?_
            rotate_left
            · (intro wS; simp only [List.getElem_toArray, List.getElem_cons_succ, List.getElem_cons_zero]; go_simp; try with_reducible rfl)
            simp only [Act.put, List.getElem_toArray, List.getElem_cons_succ, List.getElem_cons_zero, List.setIfInBounds_toArray, List.set_cons_zero, List.set_cons_succ]
            refine wpAnyF_takeT (i := 2) (v := ?_) rfl (by kernel_rfl) (by kernel_rfl) (by kernel_rfl) (by kernel_rfl) (fun _ _ _ h => h) (Or.inl ⟨by rfl, ?_⟩) hHeld ?_
            rotate_left
            · (intro wS; simp only [List.getElem_toArray, List.getElem_cons_succ, List.getElem_cons_zero]; go_simp; try with_reducible rfl)
            simp only [Act.put, List.getElem_toArray, List.getElem_cons_succ, List.getElem_cons_zero, List.setIfInBounds_toArray, List.set_cons_zero, List.set_cons_succ]
            refine wpAnyF_takeT (i := 3) (v := ?_) rfl (by kernel_rfl) (by kernel_rfl) (by kernel_rfl) (by kernel_rfl) (fun _ _ _ h => h) (Or.inl ⟨by rfl, ?_⟩) hHeld ?_
            rotate_left
            · (intro wS; simp only [List.getElem_toArray, List.getElem_cons_succ, List.getElem_cons_zero]; go_simp; try with_reducible rfl)
            simp only [Act.put, List.getElem_toArray, List.getElem_cons_succ, List.getElem_cons_zero, List.setIfInBounds_toArray, List.set_cons_zero, List.set_cons_succ]
            refine wpAnyF_takeT (i := 4) (v := ?_) rfl (by kernel_rfl) (by kernel_rfl) (by kernel_rfl) (by kernel_rfl) (fun _ _ _ h => h) (Or.inl ⟨by rfl, ?_⟩) hHeld ?_
            rotate_left
            · (intro wS; simp only [List.getElem_toArray, List.getElem_cons_succ, List.getElem_cons_zero]; go_simp; try with_reducible rfl)
            simp only [Act.put, List.getElem_toArray, List.getElem_cons_succ, List.getElem_cons_zero, List.setIfInBounds_toArray, List.set_cons_zero, List.set_cons_succ]
            refine wpAnyF_take (i := 5) (v := ?_) rfl (by kernel_rfl) (by kernel_rfl) (by kernel_rfl) (by kernel_rfl) (fun _ _ _ h => h) (Or.inl ⟨by rfl, ?_⟩) hHeld ?_
            rotate_left
            · (intro wS hSw; (try dsimp only at hSw); simp only [List.getElem_toArray, List.getElem_cons_succ, List.getElem_cons_zero]; go_simp; try with_reducible rfl)
            simp only [Act.put, List.getElem_toArray, List.getElem_cons_succ, List.getElem_cons_zero, List.setIfInBounds_toArray, List.set_cons_zero, List.set_cons_succ]
            refine wpAnyF_takeT (i := 6) (v := ?_) rfl (by kernel_rfl) (by kernel_rfl) (by kernel_rfl) (by kernel_rfl) (fun _ _ _ h => h) (Or.inl ⟨by rfl, ?_⟩) hHeld ?_
            rotate_left
            · (intro wS; simp only [List.getElem_toArray, List.getElem_cons_succ, List.getElem_cons_zero]; go_simp; try with_reducible rfl)
            simp only [Act.put, List.getElem_toArray, List.getElem_cons_succ, List.getElem_cons_zero, List.setIfInBounds_toArray, List.set_cons_zero, List.set_cons_succ]
            refine wpAnyF_takeT (i := 7) (v := ?_) rfl (by kernel_rfl) (by kernel_rfl) (by kernel_rfl) (by kernel_rfl) (fun _ _ _ h => h) (Or.inl ⟨by rfl, ?_⟩) hHeld ?_
            rotate_left
            · (intro wS; simp only [List.getElem_toArray, List.getElem_cons_succ, List.getElem_cons_zero]; go_simp; try with_reducible rfl)
            simp only [Act.put, List.getElem_toArray, List.getElem_cons_succ, List.getElem_cons_zero, List.setIfInBounds_toArray, List.set_cons_zero, List.set_cons_succ]
            refine wpAnyF_takeT (i := 8) (v := ?_) rfl (by kernel_rfl) (by kernel_rfl) (by kernel_rfl) (by kernel_rfl) (fun _ _ _ h => h) (Or.inl ⟨by rfl, ?_⟩) hHeld ?_
            rotate_left
            · (intro wS; simp only [List.getElem_toArray, List.getElem_cons_succ, List.getElem_cons_zero]; go_simp; try with_reducible rfl)
            simp only [Act.put, List.getElem_toArray, List.getElem_cons_succ, List.getElem_cons_zero, List.setIfInBounds_toArray, List.set_cons_zero, List.set_cons_succ]
            refine wpAnyF_takeT (i := 9) (v := ?_) rfl (by kernel_rfl) (by kernel_rfl) (by kernel_rfl) (by kernel_rfl) (fun _ _ _ h => h) (Or.inl ⟨by rfl, ?_⟩) hHeld ?_
            rotate_left
            · (intro wS; simp only [List.getElem_toArray, List.getElem_cons_succ, List.getElem_cons_zero]; go_simp; try with_reducible rfl)
            simp only [Act.put, List.getElem_toArray, List.getElem_cons_succ, List.getElem_cons_zero, List.setIfInBounds_toArray, List.set_cons_zero, List.set_cons_succ]
            refine wpAnyF_take (i := 10) (v := ?_) rfl (by kernel_rfl) (by kernel_rfl) (by kernel_rfl) (by kernel_rfl) (fun _ _ _ h => h) (Or.inl ⟨by rfl, ?_⟩) hHeld ?_
            rotate_left
            · (intro wS hSw; (try dsimp only at hSw); simp only [List.getElem_toArray, List.getElem_cons_succ, List.getElem_cons_zero]; go_simp; try with_reducible rfl)
            simp only [Act.put, List.getElem_toArray, List.getElem_cons_succ, List.getElem_cons_zero, List.setIfInBounds_toArray, List.set_cons_zero, List.set_cons_succ]
            refine wpAnyF_all (rs := [11]) (by kernel_rfl) (by simp) (List.forall_mem_cons.2 ⟨stepF_op rfl (by kernel_rfl) ?_, List.forall_mem_nil _⟩)
            intro K hK
            dsimp only [List.getElem_toArray, List.getElem_cons_succ, List.getElem_cons_zero]
            rw [if_pos (by rfl)]
            refine wp_fn 75 (fun _ _ => by kernel_rfl) #[.tmp 49, .tmp 54, .tmp 59] #[116, 9, 9] rfl (vs := #[.pointer (some ⟨t, 0, none⟩), .string ⟨key.toArray⟩, .string ⟨val.toArray⟩]) rfl (HPU.out _ (by (repeat (first | with_reducible exact Mod.refl _ _ | with_reducible refine Mod.drew ?_ | with_reducible refine Mod.alloc ?_ _)))) ?_
            rintro u W5 hb
            have HB := Lib.hid hb
            have hM5 : Mod NoB w W5 := by obtain ⟨_, _, _, _, _, hm, _⟩ := hb; exact hm
            have z1 := keep_cell hM5 hba f1
            have z2 := keep_cell hM5 hba f2
            clear hb hM5 e0 e1 e2
            refine hK _ _ (show_held ?_ (fun hHeld => ?_))
            · go_keep
            clear hK K
            simp only [Act.put, List.setIfInBounds_toArray, List.set_cons_zero, List.set_cons_succ]
            refine wpAnyF_done (by kernel_rfl) ?_ _
            go_step
            refine hK1 _ _ (Met.intro (hJ1 _ _ ?_))
            (repeat apply Exists.intro)
            refine ⟨?_, rfl⟩
            exact HB
          · go_wp2_with fail
            refine HDE.out.mono ?_
            rintro e W5 ⟨u, rfl, hb⟩
            have HB := Lib.hid hb
            clear hb
            go_wp2_with fail
            go_meet
            exact HB
        case rest =>
          have HB := hcut
          clear hcut e0 e1 e2 f1 f2 HPU HDE HREL
          generalize wc = Y at *
          obtain ⟨root, hrt, hsh⟩ := bs_root HB.out (by omega)
          have HRT := Lib.hid hrt
          clear hrt
          rcases hsh with rfl | ⟨r, d, rfl, hc⟩
          · by_cases m8 : (k : Int) % 8 = 0
            · go_wp2_with fail
              refine (HRT.out _ (Mod.refl _ _)).mono ?_
              rintro e Y2 ⟨rfl, rfl⟩
              go_wp2_with fail
              have HB2 := HB
              go_roundw
              case rel => exact ⟨k + 1, by omega, by omega, by go_num, HB2⟩
              case measure => simp [intOf]; omega
            · by_cases mE : (k : Int) = (ls.length : Int) - 1
              · go_wp2_with fail
                refine (HRT.out _ (Mod.refl _ _)).mono ?_
                rintro e Y2 ⟨rfl, rfl⟩
                go_wp2_with fail
                have HB2 := HB
                go_roundw
                case rel => exact ⟨k + 1, by omega, by omega, by go_num, HB2⟩
                case measure => simp [intOf]; omega
              · go_wp2_with fail
                have HB2 := HB
                go_roundw
                case rel => exact ⟨k + 1, by omega, by omega, by go_num, HB2⟩
                case measure => simp [intOf]; omega
          · have HSP := Lib.hid hc
            clear hc
            by_cases m8 : (k : Int) % 8 = 0
            · go_wp2_with fail
              refine (HRT.out _ (Mod.refl _ _)).mono ?_
              rintro e Y2 ⟨rfl, rfl⟩
              go_wp2_with fail
              refine (HRT.out _ (Mod.refl _ _)).mono ?_
              rintro e Y2 ⟨rfl, rfl⟩
              go_wp2_with fail
              refine (HSP.out _ (Mod.refl _ _)).mono ?_
              rintro e Y2 ⟨rfl, hm2⟩
              have HB2 := Lib.hid (HB.out.quiet hm2)
              clear hm2
              go_wp2_with fail
              go_roundw
              case rel => exact ⟨k + 1, by omega, by omega, by go_num, HB2⟩
              case measure => simp [intOf]; omega
            · by_cases mE : (k : Int) = (ls.length : Int) - 1
              · go_wp2_with fail
                refine (HRT.out _ (Mod.refl _ _)).mono ?_
                rintro e Y2 ⟨rfl, rfl⟩
                go_wp2_with fail
                refine (HRT.out _ (Mod.refl _ _)).mono ?_
                rintro e Y2 ⟨rfl, rfl⟩
                go_wp2_with fail
                refine (HSP.out _ (Mod.refl _ _)).mono ?_
                rintro e Y2 ⟨rfl, hm2⟩
                have HB2 := Lib.hid (HB.out.quiet hm2)
                clear hm2
                go_wp2_with fail
                go_roundw
                case rel => exact ⟨k + 1, by omega, by omega, by go_num, HB2⟩
                case measure => simp [intOf]; omega
              · go_wp2_with fail
                have HB2 := HB
                go_roundw
                case rel => exact ⟨k + 1, by omega, by omega, by go_num, HB2⟩
                case measure => simp [intOf]; omega
    · clear HC
      have hM : Mod NoB w wr := by obtain ⟨_, _, _, _, _, hm, _⟩ := HREL.out; exact hm
      go_wp2_with fail
      all_goals exact bodyPost_ret (v := .bool true) (by simp [results, Try.f13, go_sem]) rfl ⟨rfl, hM⟩

end Go.Proofs.Ytgofngilfdnakaa

namespace Go.Proofs.Ytgofngilfdnakaa
open Go Go.ChangeShapes Go.WideShapes Go.ChangeAt Go.RowKit

theorem own : ownKnob Try.prog.godebug = none := by kernel_rfl

set_option maxRecDepth 100000 in
theorem btreeShapes_lifted (os : Os) (started : os.Started) (H : Type) (enc : TypeId × Value → H) :
    ReturnsInHanded {} Try.checked os 13 .any (Rows.btreeShapesSpec.pre6 enc Try.prog Try.f13 Rows.btreeShapesRow.domain false) (Rows.btreeShapesSpec.post enc Try.prog Try.f13 false true false false) := by
  refine returnsInHanded_of_change (C := Try.checked) own started (by kernel_rfl) Try.func13
    (ChangeSpec.witness6 (enc := enc) (C := Try.checked) false ⟨#[], #[.slice none 0 0], []⟩ 8 (by kernel_rfl) (by kernel_rfl) (by kernel_rfl) (by kernel_rfl)) ?_
  intro W base args ds gs before hval0 hW hcnd _
  have hval : ∀ (j : Nat) t v, Try.f13.params[j]? = some t → args[j]? = some v → Value.okWide Try.prog W .any base t v := hval0
  have hW' := hW
  obtain ⟨p, q, hA0, hV, rfl, hfz, hnd⟩ := hW
  have hA : DataW.TrodAll enc Try.prog W 0 (fun _ => true) true Try.f13.params.toList args.toList ds p := hA0
  rw [Try.params13] at hA hval
  obtain ⟨v0, d0, rfl, rfl, h0⟩ := trodAll_one hA
  obtain ⟨rfl, rfl⟩ := trodVars_none hV
  obtain ⟨ls, hls⟩ := open_acts6 (hval 0 115 v0 rfl rfl) h0
  clear hA0 hval0
  refine (BtreeShapes_calls v0 ls W hls).mono fun e W' ⟨he, hm⟩ => ?_
  subst he
  exact ⟨_, rfl, post_of_below (by kernel_rfl) (by rw [Try.params13]; decide +kernel) rfl hW' (hm.below (fun _ _ => id)) (fun _ _ _ => trodAll_mk1 (shut_bool Try.underlying4 _)) rfl rfl (ok_one (by kernel_rfl) rfl (okWide_bool_mk Try.underlying4 _))⟩

theorem btreeShapes_holds : Rows.BtreeShapesSaid :=
  OpenClaim.holds_of_wide 13 Try.f13 rfl rfl rfl rfl rfl rfl rfl ⟨rfl, rfl, rfl, rfl, rfl⟩ rfl rfl rfl rfl rfl (by kernel_rfl) Try.func13 (by kernel_rfl)
    (of_decide_eq_true (by kernel_rfl)) (by unfold Func.isWrapper; first | (rw [if_pos (by decide +kernel)]; kernel_rfl) | (rw [if_neg (by decide +kernel)]; exact ⟨rfl, rfl⟩))
    (fun os started H enc _ => btreeShapes_lifted os started H enc)
#print axioms btreeShapes_holds

end Go.Proofs.Ytgofngilfdnakaa
