/-
  This text proves that slices.Delete takes one of a few numbers away, and what End of a session's table does to a table of whatever sessions: under bounds on numbers.
-/
import Derived.Test.YtgofngilfdnakaaSess2
import Derived.Test.YtgofngilfdnakaaSess5
namespace Go.Proofs.Ytgofngilfdnakaa
open Go Go.RowKit
attribute [local go_sem] over_cell over_frozen lt_over le_over noB loudUpon

/-- Cells with others in their places. -/
def laid : Array Value → Nat → List Value → Array Value
  | cs, _, [] => cs
  | cs, o, v :: r => laid (cs.setIfInBounds o v) (o + 1) r
theorem laid_size : ∀ (vs : List Value) (cs : Array Value) (o : Nat), (laid cs o vs).size = cs.size
  | [], _, _ => rfl
  | v :: r, cs, o => by rw [laid, laid_size r]; simp
theorem laid_get : ∀ (vs : List Value) (cs : Array Value) (o j : Nat), o + vs.length ≤ cs.size → (laid cs o vs)[j]? = if o ≤ j ∧ j < o + vs.length then vs[j - o]? else cs[j]?
  | [], cs, o, j, _ => by rw [laid, if_neg (by simp only [List.length_nil]; omega)]
  | v :: r, cs, o, j, h => by
    simp only [List.length_cons] at h ⊢
    rw [laid, laid_get r _ (o + 1) j (by simp; omega)]
    by_cases h1 : o + 1 ≤ j ∧ j < o + 1 + r.length
    · rw [if_pos h1, if_pos (by omega), show j - o = (j - (o + 1)) + 1 by omega, List.getElem?_cons_succ]
    · rw [if_neg h1]
      by_cases h2 : j = o
      · subst h2
        rw [if_pos (by omega), Nat.sub_self, List.getElem?_cons_zero, Array.getElem?_setIfInBounds, if_pos rfl, if_pos (by omega)]
      · rw [if_neg (by omega), Array.getElem?_setIfInBounds, if_neg (fun e => h2 e.symm)]
theorem heap_setCells (g : Nat) (t : TypeId) (f : Nat × Nat) : ∀ (vs : List Value) (o : Nat) (w : World) (cs : Array Value), w.heap[g]? = some (.cells cs t f) → (w.setCells g o vs).heap[g]? = some (.cells (laid cs o vs) t f)
  | [], _, _, _, h => h
  | v :: r, o, w, cs, h => by
    show ((w.setCell ⟨g, o, none⟩ v).setCells g (o + 1) r).heap[g]? = _
    exact heap_setCells g t f r (o + 1) _ _ (by rw [heap_setCell_same, h]; rfl)
theorem Mod.setCells {G : Nat → Prop} {a : World} (g : Nat) (hg : G g) : ∀ (vs : List Value) (o : Nat) (b : World), Mod G a b → Mod G a (b.setCells g o vs)
  | [], _, _, h => h
  | v :: r, o, b, h => by
    show Mod G a ((b.setCell ⟨g, o, none⟩ v).setCells g (o + 1) r)
    exact Mod.setCells g hg r (o + 1) _ (h.setCell _ _ (fun _ => hg))

set_option maxRecDepth 100000 in
set_option maxHeartbeats 800000 in
theorem DeleteU_calls (g c : Nat) (cur : Array Value) (L : List Nat) (i : Nat) (w : World) (h : w.heap[g]? = some (.cells cur 73 (0, 0))) (hs : cur.size = c) (hlc : L.length ≤ c) (hm : c ≤ maxLen) (ht : cur.toList.take L.length = L.map fun n : Nat => Value.int .u32 (n : Int)) (hi : i < L.length) (hL : L.length ≤ 1000) :
    Calls Try.prog 104 #[.slice (some ⟨g, 0, none⟩) L.length c, .int .i64 i, .int .i64 ((i : Int) + 1)] w fun e w' => e = .returned (.slice (some ⟨g, 0, none⟩) (L.length - 1) c) ∧ Mod (fun k => k = g) w w' ∧
      ∃ cur', w'.heap[g]? = some (.cells cur' 73 (0, 0)) ∧ cur'.size = c ∧ cur'.toList.take (L.length - 1) = (L.eraseIdx i).map fun n : Nat => Value.int .u32 (n : Int) := by
  have hg := lt_heap h
  obtain ⟨inf, z, hinf, hz, hz1, hz2, hz3⟩ := infoU
  rw [maxLen_eq] at hm
  have hcur : ∀ j : Nat, j < L.length → cur[j]? = some (.int .u32 ((L[j]?.getD 0 : Nat) : Int)) := fun j hj => by
    have h1 : (L.map fun n : Nat => Value.int .u32 (n : Int))[j]? = some (.int .u32 ((L[j]?.getD 0 : Nat) : Int)) := by
      rw [List.getElem?_map, List.getElem?_eq_getElem hj]; rfl
    rw [← ht, List.getElem?_take, if_pos hj, Array.getElem?_toList] at h1
    exact h1
  obtain ⟨news, hnews⟩ : ∃ news, news = (L.drop (i + 1)).map fun n : Nat => Value.int .u32 (n : Int) := ⟨_, rfl⟩
  have hnl : news.length = L.length - (i + 1) := by rw [hnews]; simp
  have hng : ∀ j : Nat, j < news.length → news[j]? = cur[i + 1 + j]? := fun j hj => by
    rw [hcur _ (by omega), hnews, List.getElem?_map, List.getElem?_drop, List.getElem?_eq_getElem (by omega)]; rfl
  have hh := fun y => (over_heap (w := w) (x := y) (F := NoB) hg id).trans h
  have hrun : ∀ ad : Addr, (¬ c = i + 1 → ad = ⟨g, i + 1, none⟩) → ∀ y, (Builtin.append_ #[79, 79] 79 #[.slice (some ⟨g, 0, none⟩) i c, .slice (some ad) (L.length - (i + 1)) (c - (i + 1))]).run Try.prog (over w NoB y) = .ok (.slice (some ⟨g, 0, none⟩) (L.length - 1) c) ((over w NoB y).setCells g i news) := fun ad had y => by
    have := run_append_room_cells (P := Try.prog) (over w NoB y) 79 79 73 inf Try.underlying79 hinf g 0 i c ad (L.length - (i + 1)) (c - (i + 1)) news (by rw [hz1, hnl]; omega) (fun j u hj => by
      have hj' := (List.getElem?_eq_some_iff.1 hj).1
      rw [had (by omega), show (⟨g, i + 1, none⟩ : Addr).add j = ⟨g, i + 1 + j, none⟩ from Addr.add_mid _ _ _, cell_heap (hh y), ← hng j hj']
      exact hj) (fun u hu => by rw [hnews] at hu; obtain ⟨q, _, rfl⟩ := List.mem_map.1 hu; rfl) (by omega) (fun j hj => by rw [cell_heap (hh y), hz1]; simp; omega) (fun j hj => frozen_heap (hh y) _)
    rw [hz1, show 0 + i * 1 = i by omega, show i + (L.length - (i + 1)) = L.length - 1 by omega] at this
    exact this
  have hh2 := fun y => heap_setCells g _ _ news (0 + i * 1) (over w NoB y) cur (hh y)
  have hclr : ∀ y ty, (Builtin.clear_ #[79] ty #[.slice (some ⟨g, L.length - 1, none⟩) (L.length - (L.length - 1)) (c - (L.length - 1))]).run Try.prog ((over w NoB y).setCells g i news) = .ok (.tuple #[]) (((over w NoB y).setCells g i news).setCells g (L.length - 1) [.int .u32 0]) := fun y ty => by
    rw [show L.length - (L.length - 1) = 1 by omega]
    exact clearU ((over w NoB y).setCells g i news) g (L.length - 1) (c - (L.length - 1)) (laid cur i news) ty (by have := hh2 y; rwa [show 0 + i * 1 = i by omega] at this) (by rw [laid_size]; omega)
  rw [show 0 + i * 1 = i by omega] at hh2
  have hfin : ∀ y, (((over w NoB y).setCells g i news).setCells g (L.length - 1) [.int .u32 0]).heap[g]? = some (.cells (laid (laid cur i news) (L.length - 1) [.int .u32 0]) 73 (0, 0)) := fun y => heap_setCells g _ _ _ _ _ _ (hh2 y)
  have htake : (laid (laid cur i news) (L.length - 1) [.int .u32 0]).toList.take (L.length - 1) = (L.eraseIdx i).map fun n : Nat => Value.int .u32 (n : Int) := by
    apply List.ext_getElem?
    intro j
    rw [List.getElem?_take]
    split
    · rename_i hj
      rw [Array.getElem?_toList, laid_get _ _ _ _ (by rw [laid_size]; simp only [List.length_cons, List.length_nil]; omega), if_neg (by omega), laid_get _ _ _ _ (by omega), List.getElem?_map, List.getElem?_eraseIdx]
      by_cases h1 : j < i
      · rw [if_neg (by omega), if_pos h1, hcur j (by omega), List.getElem?_eq_getElem (by omega)]; rfl
      · rw [if_pos (by omega), if_neg h1, hng _ (by omega), show i + 1 + (j - i) = j + 1 by omega, hcur _ (by omega), List.getElem?_eq_getElem (by omega)]; rfl
    · rw [List.getElem?_eq_none]
      rw [List.length_map, List.length_eraseIdx, if_pos hi]
      omega
  have HFIN := Lib.hid hfin
  have HTK := Lib.hid htake
  have hne : ((i : Int) == (i : Int) + 1) = false := by simp; omega
  have hc1 : ¬ c = L.length - 1 := by omega
  by_cases hci : c = i + 1
  · have hrun0 := hrun ⟨g, 0, none⟩ (fun h => absurd hci h)
    subst hci
    rw [Nat.sub_self, show L.length - (i + 1) = 0 by omega] at hrun0
    have HRUN := Lib.hid hrun0
    clear hrun0 hh hrun hh2 hfin htake hng hnews hcur ht h
    go_enter Try.func104, Try.ntmps104
    go_wp2
    refine wp_region_quiet_tail 6 (fun w' => ∃ x, w' = over _ (NoB) x) (by kernel_rfl) (by kernel_rfl) (Cls.drew _ _) ?_
    simp only [List.take_succ_cons, List.take_zero, List.drop_succ_cons, List.drop_zero]
    repeat (go_big_quiet_step (fail))
    refine wpQuiet_nil ?_
    rintro _ ⟨y, rfl⟩
    refine wpList_append_run rfl _ _ _ rfl rfl rfl (HRUN.out y) ?_
    go_wp2
    go_ret
    exact ⟨rfl, (Mod.setCells (G := fun k => k = g) g rfl _ _ _ (Mod.setCells (G := fun k => k = g) g rfl _ _ _ ((over_mod _ _ _).mono (noB_sub (fun k => k = g) _)))), _, HFIN.out y, by rw [laid_size, laid_size]; exact hs, HTK.out⟩
  · have HRUN := Lib.hid (hrun ⟨g, i + 1, none⟩ (fun _ => rfl))
    clear hh hrun hh2 hfin htake hng hnews hcur ht h
    go_enter Try.func104, Try.ntmps104
    go_wp2
    refine wp_region_quiet_tail 6 (fun w' => ∃ x, w' = over _ (NoB) x) (by kernel_rfl) (by kernel_rfl) (Cls.drew _ _) ?_
    simp only [List.take_succ_cons, List.take_zero, List.drop_succ_cons, List.drop_zero]
    repeat (go_big_quiet_step (fail))
    refine wpQuiet_nil ?_
    rintro _ ⟨y, rfl⟩
    refine wpList_append_run rfl _ _ _ rfl rfl rfl (HRUN.out y) ?_
    go_wp2
    go_ret
    exact ⟨rfl, (Mod.setCells (G := fun k => k = g) g rfl _ _ _ (Mod.setCells (G := fun k => k = g) g rfl _ _ _ ((over_mod _ _ _).mono (noB_sub (fun k => k = g) _)))), _, HFIN.out y, by rw [laid_size, laid_size]; exact hs, HTK.out⟩

end Go.Proofs.Ytgofngilfdnakaa
