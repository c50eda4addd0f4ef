/-
  This text proves what the law SessPlays' own small functions compute: the place of a request, of a session, how many requests there are: for few of each.
-/
import Derived.Test.YtgofngilfdnakaaSess5
namespace Go.Proofs.Ytgofngilfdnakaa
open Go Go.RowKit
attribute [local go_sem] over_cell over_frozen lt_over le_over noB loudUpon

set_option maxRecDepth 100000 in
set_option maxHeartbeats 800000 in
theorem place_none (b : Nat) (v : Value) (L : List Nat) (n : Nat) (w : World) (h : Nums w b v L) (hn : n ∉ L) (hL : L.length ≤ 1000) :
    Calls Try.prog 50 #[v, .int .u32 n] w fun e w' => e = .returned (.int .i64 (-1)) ∧ w = w' := by
  obtain ⟨a, c, rfl, hc, hcell⟩ := h.shape
  have HC := Lib.hid hcell
  have HN := Lib.hid hn
  clear hcell hn
  go_enter Try.func50, Try.ntmps50
  go_wp2
  go_loop [5] (fun i => ∃ (k : Nat), k ≤ L.length ∧ i = .int .i64 k) (fun i => L.length - (RowKit.intOf i).toNat)
  case atStart => exact ⟨0, by omega, rfl⟩
  case round =>
    obtain ⟨k, hk, rfl⟩ := hrel
    by_cases hlt : k < L.length
    · rcases HC.out with h0 | ⟨g, cur, rfl, hg, hb, hcs, hcell⟩
      · omega
      · have hck := (cell_heap hg k).trans (hcell k hlt)
        have hne : n ≠ L[k]?.getD 0 := fun e => HN.out (by rw [e, List.getElem?_eq_getElem hlt]; exact List.getElem_mem hlt)
        have hgl := lt_heap hg
        generalize L[k]?.getD 0 = x at *
        have hne2 : ((x : Int) == (n : Int)) = false := by simp; omega
        clear hg hcell HC hne
        go_wp2
        go_round
        case rel => exact ⟨k + 1, by omega, by go_num⟩
        case measure => simp [RowKit.intOf]; omega
    · go_wp2
      go_ret
      exact ⟨rfl, rfl⟩
set_option maxRecDepth 100000 in
set_option maxHeartbeats 800000 in
theorem place_some (b : Nat) (v : Value) (L : List Nat) (n i0 : Nat) (w : World) (h : Nums w b v L) (hn : L[i0]? = some n) (hf : ∀ j, j < i0 → L[j]?.getD 0 ≠ n) (hL : L.length ≤ 1000) :
    Calls Try.prog 50 #[v, .int .u32 n] w fun e w' => e = .returned (.int .i64 i0) ∧ w = w' := by
  obtain ⟨a, c, rfl, hc, hcell⟩ := h.shape
  have hi0 : i0 < L.length := (List.getElem?_eq_some_iff.1 hn).1
  have HC := Lib.hid hcell
  have HN := Lib.hid hn
  have HF := Lib.hid hf
  clear hcell hn hf
  go_enter Try.func50, Try.ntmps50
  go_wp2
  go_loop [5] (fun i => ∃ (k : Nat), k ≤ i0 ∧ i = .int .i64 k) (fun i => L.length - (RowKit.intOf i).toNat)
  case atStart => exact ⟨0, by omega, rfl⟩
  case round =>
    obtain ⟨k, hk, rfl⟩ := hrel
    have hlt : k < L.length := by omega
    rcases HC.out with h0 | ⟨g, cur, rfl, hg, hb, hcs, hcell⟩
    · omega
    · have hck := (cell_heap hg k).trans (hcell k hlt)
      have hgl := lt_heap hg
      by_cases hki : k = i0
      · subst hki
        have hx : L[k]?.getD 0 = n := by rw [HN.out]; rfl
        rw [hx] at hck
        clear hg hcell HC hx
        go_wp2
        go_ret
        exact ⟨rfl, rfl⟩
      · have hne := HF.out k (by omega)
        generalize L[k]?.getD 0 = x at *
        have hne2 : ((x : Int) == (n : Int)) = false := by simp; omega
        clear hg hcell HC hne
        go_wp2
        go_round
        case rel => exact ⟨k + 1, by omega, by go_num⟩
        case measure => simp [RowKit.intOf]; omega

/-- The model's sessions: each with the value that holds its requests. -/
abbrev Es := List (Int × Value × List Nat)
def opCells (E : Es) : List Value := E.flatMap fun e => [.int .i64 e.1, e.2.1]
def OpsAt (w : World) (base : Nat) (v : Value) (E : Es) : Prop := w.ownsRow base 81 2 v E.length (opCells E)
theorem OpsAt.cells {w : World} {base : Nat} {v : Value} {E : Es} (h : OpsAt w base v E) : ∃ a c, v = .slice a E.length c ∧ E.length ≤ c ∧ ∀ k, (hk : k < E.length) → ∃ q, a = some ⟨q, 0, none⟩ ∧ q < w.heap.size ∧
    w.cell? ⟨q, k * 2, none⟩ = some (.int .i64 E[k].1) ∧ w.cell? ⟨q, k * 2 + 1, none⟩ = some E[k].2.1 := by
  rcases h.2 with ⟨hv, hn⟩ | ⟨g, cap, cur, hv, _, hg, hnc, hcm, hcs, ht⟩
  · exact ⟨none, 0, by rw [hv, hn], by omega, fun k hk => by omega⟩
  · refine ⟨_, cap, hv, hnc, fun k hk => ⟨g, rfl, lt_heap hg, ?_⟩⟩
    have key : ∀ j, j < E.length * 2 → cur[j]? = (opCells E)[j]? := fun j hj => by
      rw [← ht, List.getElem?_take, if_pos hj, Array.getElem?_toList]
    have hrec : ∀ (E : Es) (k : Nat) (hk : k < E.length), (opCells E)[k * 2]? = some (.int .i64 E[k].1) ∧ (opCells E)[k * 2 + 1]? = some E[k].2.1 := by
      intro E
      induction E with
      | nil => intro k hk; simp at hk
      | cons r E ih =>
        intro k hk
        cases k with
        | zero => exact ⟨rfl, rfl⟩
        | succ k =>
          have := ih k (by simpa using hk)
          rw [show (k + 1) * 2 = k * 2 + 1 + 1 by omega]
          exact this
    have h2 := hrec E k hk
    rw [cell_heap hg, cell_heap hg, key _ (by omega), key _ (by omega)]
    exact h2

/-- How many requests there are. -/
def total (E : Es) : Nat := (E.map fun e => e.2.2.length).sum
theorem total_take (E : Es) {k : Nat} (hk : k < E.length) : total (E.take (k + 1)) = total (E.take k) + E[k].2.2.length := by
  unfold total
  rw [List.take_succ_eq_append_getElem hk, List.map_append, List.sum_append]
  simp
theorem total_take_le (E : Es) (k : Nat) : total (E.take k) ≤ total E := by
  have h : total (E.take k) + total (E.drop k) = total E := by
    unfold total
    rw [← List.sum_append, ← List.map_append, List.take_append_drop]
  omega

set_option maxRecDepth 100000 in
set_option maxHeartbeats 800000 in
theorem all_calls (base : Nat) (v : Value) (E : Es) (w : World) (h : OpsAt w base v E) (hE : ∀ e ∈ E, ∃ a c, e.2.1 = .slice a e.2.2.length c) (hn : E.length ≤ 1000) (ht : total E ≤ 1000000) :
    Calls Try.prog 105 #[v] w fun e w' => e = .returned (.int .i64 (total E)) ∧ w = w' := by
  obtain ⟨a, c, rfl, hc, hcell⟩ := h.cells
  have HC := Lib.hid hcell
  have HE := Lib.hid hE
  clear hcell h hE
  go_enter Try.func105, Try.ntmps105
  go_wp2
  go_loop [3, 4] (fun s i => ∃ (k : Nat), k ≤ E.length ∧ i = .int .i64 k ∧ s = .int .i64 (total (E.take k))) (fun _ i => E.length - (RowKit.intOf i).toNat)
  case atStart => exact ⟨0, by omega, rfl, rfl⟩
  case round =>
    obtain ⟨k, hk, rfl, rfl⟩ := hrel
    by_cases hlt : k < E.length
    · obtain ⟨q, rfl, hq, _, h2⟩ := HC.out k hlt
      obtain ⟨a2, c2, h3⟩ := HE.out _ (List.getElem_mem hlt)
      rw [h3] at h2
      have h4 := total_take E hlt
      have h5 := total_take_le E (k + 1)
      generalize E[k].2.2.length = x at *
      have h6 : ((total (E.take (k + 1)) : Nat) : Int) = (total (E.take k) : Int) + (x : Int) := by omega
      generalize hy : total (E.take (k + 1)) = y2 at *
      have HY := Lib.hid hy
      clear hy
      generalize total (E.take k) = y1 at *
      go_wp2
      go_round
      case rel => exact ⟨k + 1, by omega, by go_num, by rw [HY.out, h6]⟩
      case measure => simp [RowKit.intOf]; omega
    · have hke : k = E.length := by omega
      subst hke
      rw [List.take_length]
      go_wp2
      go_ret
      exact ⟨rfl, rfl⟩

/-- Where a session stands, or would. -/
def findAt (E : Es) (s : Int) : Nat := (E.takeWhile fun e => decide (e.1 < s)).length
def isAt (E : Es) (s : Int) : Bool := match E[findAt E s]? with
  | some e => e.1 == s
  | none => false
theorem findAt_eq (s : Int) : ∀ (E : Es) (k : Nat), k ≤ E.length → (∀ j, (hj : j < E.length) → j < k → E[j].1 < s) → (∀ (hk : k < E.length), ¬ E[k].1 < s) → findAt E s = k
  | [], k, h, _, _ => by
    have : k = 0 := by simpa using h
    rw [this]; rfl
  | e :: E, 0, _, _, h2 => by
    have h3 := h2 (by simp)
    unfold findAt
    rw [List.takeWhile_cons, if_neg (by simpa using h3)]
    rfl
  | e :: E, k + 1, h, h1, h2 => by
    have h3 := h1 0 (by simp) (by omega)
    have ih := findAt_eq s E k (by simpa using h) (fun j hj hjk => h1 (j + 1) (Nat.succ_lt_succ hj) (by omega)) (fun hk => h2 (Nat.succ_lt_succ hk))
    unfold findAt at ih ⊢
    rw [List.takeWhile_cons, if_pos (by simpa using h3), List.length_cons, ih]

set_option maxRecDepth 100000 in
set_option maxHeartbeats 1600000 in
theorem find_calls (base : Nat) (v : Value) (E : Es) (s : Int) (w : World) (h : OpsAt w base v E) (hn : E.length ≤ 1000) :
    Calls Try.prog 48 #[v, .int .i64 s] w fun e w' => e = .returned (.tuple #[.int .i64 (findAt E s), .bool (isAt E s)]) ∧ Mod NoB w w' := by
  obtain ⟨a, c, rfl, hc, hcell⟩ := h.cells
  have HC := Lib.hid hcell
  clear hcell h
  go_enter Try.func48, Try.ntmps48
  go_wp2
  go_loop [6] (fun i => ∃ (k : Nat), k ≤ E.length ∧ i = .int .i64 k ∧ Hid (∀ j, (hj : j < E.length) → j < k → E[j].1 < s)) (fun i => E.length - (RowKit.intOf i).toNat)
  case atStart => exact ⟨0, by omega, rfl, fun j hj hk => absurd hk (Nat.not_lt_zero _)⟩
  case round =>
    obtain ⟨k, hk, rfl, HF⟩ := hrel
    by_cases hlt : k < E.length
    · obtain ⟨q, rfl, hq, h1, h2⟩ := HC.out k hlt
      by_cases hs : E[k].1 < s
      · have HF2 : Hid (∀ j, (hj : j < E.length) → j < k + 1 → E[j].1 < s) := fun j hj hk => by
          by_cases hjk : j = k
          · subst hjk; exact hs
          · exact HF.out j hj (by omega)
        generalize E[k] = x at *
        obtain ⟨x1, x2, x3⟩ := x
        simp only at h1 hs
        clear h2
        go_wp2
        go_round
        case rel => exact ⟨k + 1, by omega, by go_num, HF2⟩
        case measure => simp [RowKit.intOf]; omega
      · have hfa := findAt_eq s E k hk HF.out (fun _ => hs)
        have his : isAt E s = (E[k].1 == s) := by
          unfold isAt
          rw [hfa, List.getElem?_eq_getElem hlt]
        have HFA := Lib.hid hfa
        have HIS := Lib.hid his
        generalize E[k] = x at *
        obtain ⟨x1, x2, x3⟩ := x
        simp only at h1 hs
        clear h2 hfa his HF
        go_wp2
        refine wp_region_quiet_all (fun w' => ∃ x, w' = over _ (NoB) x) (by kernel_rfl) (by kernel_rfl) (Cls.drew _ _) ?_
        repeat (go_big_quiet_step (fail))
        refine wpQuiet_nil ?_
        rintro _ ⟨y, rfl⟩
        go_wp2
        go_ret2
        exact ⟨by rw [HFA.out, HIS.out]; rfl, over_mod _ _ _⟩
    · have hke : k = E.length := by omega
      have hfa := findAt_eq s E k hk HF.out (fun h => absurd h hlt)
      have his : isAt E s = false := by
        unfold isAt
        rw [hfa, List.getElem?_eq_none (by omega)]
      have HFA := Lib.hid hfa
      have HIS := Lib.hid his
      clear hfa his HF
      go_wp2
      refine wp_region_quiet_all (fun w' => ∃ x, w' = over _ (NoB) x) (by kernel_rfl) (by kernel_rfl) (Cls.drew _ _) ?_
      repeat (go_big_quiet_step (fail))
      refine wpQuiet_nil ?_
      rintro _ ⟨y, rfl⟩
      go_wp2
      go_ret2
      exact ⟨by rw [HFA.out, HIS.out, hke]; rfl, over_mod _ _ _⟩

end Go.Proofs.Ytgofngilfdnakaa
