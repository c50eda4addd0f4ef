/-
  This text proves what the methods of a session's table do to a table that has no session but the third, and what the methods of a nil table answer: under bounds on numbers.
-/
import Derived.Test.YtgofngilfdnakaaDiskC
namespace Go.Proofs.Ytgofngilfdnakaa
open Go Go.RowKit
attribute [local go_sem] over_cell over_frozen lt_over le_over noB loudUpon

set_option maxRecDepth 100000 in
set_option maxHeartbeats 400000 in
theorem SOpen_nil3 (n : Int) (w : World) : Calls Try.prog 49 #[.pointer none, .int .i64 n] w fun e w' => e = .returned (.int .i64 1) ∧ w = w' := by
  go_enter Try.func49, Try.ntmps49
  go_wp2
  go_ret
  exact ⟨rfl, rfl⟩
set_option maxRecDepth 100000 in
set_option maxHeartbeats 400000 in
theorem SIs_nil3 (n : Int) (w : World) : Calls Try.prog 57 #[.pointer none, .int .i64 n] w fun e w' => e = .returned (.bool false) ∧ w = w' := by
  go_enter Try.func57, Try.ntmps57
  go_wp2
  go_ret
  exact ⟨rfl, rfl⟩
set_option maxRecDepth 100000 in
set_option maxHeartbeats 400000 in
theorem SBegin_nil3 (n m : Int) (w : World) : Calls Try.prog 55 #[.pointer none, .int .i64 n, .int .u32 m] w fun e w' => e = .returned (.int .i64 2) ∧ w = w' := by
  go_enter Try.func55, Try.ntmps55
  go_wp2
  go_ret
  exact ⟨rfl, rfl⟩
set_option maxRecDepth 100000 in
set_option maxHeartbeats 400000 in
theorem SEnd_nil3 (n m : Int) (w : World) : Calls Try.prog 51 #[.pointer none, .int .i64 n, .int .u32 m] w fun e w' => e = .returned (.bool false) ∧ w = w' := by
  go_enter Try.func51, Try.ntmps51
  go_wp2
  go_ret
  exact ⟨rfl, rfl⟩
set_option maxRecDepth 100000 in
set_option maxHeartbeats 400000 in
theorem SClose_nil3 (n : Int) (w : World) : Calls Try.prog 53 #[.pointer none, .int .i64 n] w fun e w' => e = .returned (.slice none 0 0) ∧ w = w' := by
  go_enter Try.func53, Try.ntmps53
  go_wp2
  go_ret
  exact ⟨rfl, rfl⟩
set_option maxRecDepth 100000 in
set_option maxHeartbeats 400000 in
theorem SSessions_nil3 (_ : Unit) (w : World) : Calls Try.prog 58 #[.pointer none] w fun e w' => e = .returned (.slice none 0 0) ∧ w = w' := by
  go_enter Try.func58, Try.ntmps58
  go_wp2
  go_ret
  exact ⟨rfl, rfl⟩
set_option maxRecDepth 100000 in
set_option maxHeartbeats 400000 in
theorem SCount_nil3 (n : Int) (w : World) : Calls Try.prog 59 #[.pointer none, .int .i64 n] w fun e w' => e = .returned (.int .i64 0) ∧ w = w' := by
  go_enter Try.func59, Try.ntmps59
  go_wp2
  go_ret
  exact ⟨rfl, rfl⟩
set_option maxRecDepth 100000 in
set_option maxHeartbeats 400000 in
theorem SAll_nil3 (_ : Unit) (w : World) : Calls Try.prog 60 #[.pointer none] w fun e w' => e = .returned (.int .i64 0) ∧ w = w' := by
  go_enter Try.func60, Try.ntmps60
  go_wp2
  go_ret
  exact ⟨rfl, rfl⟩

/-- What stands in a table is read as the value itself. -/
def heldR (v : Value) : Option (DataW Value × List MemPlace) := some (.held v, [])
/-- The map of a table. -/
def MapIs (w : World) (b k : Nat) (D : DataW Value) : Prop := w.ownsMap Try.prog 3 heldR b k D
theorem keyedInt : Maps.Keyed Try.prog 3 := Maps.int_keyed Try.underlying3
theorem zeroU (w : World) : (zeroValue 79).run Try.prog w = .ok (.slice none 0 0) w := by kernel_rfl
theorem key3 : keyOf Try.prog 3 (.int .i64 3) = some (.int .i64 3) := by kernel_rfl
def one3 (v : Value) : DataW Value := .map [(.int .i64 3, .held v)]
theorem MapIs.look {w : World} {b k : Nat} {v : Value} (h : MapIs w b k (one3 v)) : (Instr.lookup 164 (.map (some b)) (.int .i64 3) true).run Try.prog w = .ok (.tuple #[v, .bool true]) w := by
  obtain ⟨u, ps, hrun, hv⟩ := World.ownsMap.look_ok h keyedInt Try.underlying164 (zeroU w) (zd := .held (.slice none 0 0)) (zp := []) rfl key3
  have e : (one3 v).atKey (.int .i64 3) (.held (.slice none 0 0)) = .held v := rfl
  rw [e] at hv
  have : u = v := by cases hv; rfl
  rw [hrun, this]
  rfl
theorem MapIs.look1 {w : World} {b k : Nat} {v : Value} (h : MapIs w b k (one3 v)) : (Instr.lookup 164 (.map (some b)) (.int .i64 3) false).run Try.prog w = .ok v w := by
  obtain ⟨u, ps, hrun, hv⟩ := World.ownsMap.lookup h keyedInt Try.underlying164 (zeroU w) (zd := .held (.slice none 0 0)) (zp := []) rfl key3
  have e : (one3 v).atKey (.int .i64 3) (.held (.slice none 0 0)) = .held v := rfl
  rw [e] at hv
  have : u = v := by cases hv; rfl
  rw [hrun, this]
theorem MapIs.look0 {w : World} {b k : Nat} (h : MapIs w b k (.map [])) : (Instr.lookup 164 (.map (some b)) (.int .i64 3) true).run Try.prog w = .ok (.tuple #[.slice none 0 0, .bool false]) w := by
  obtain ⟨u, ps, hrun, hv⟩ := World.ownsMap.look_ok h keyedInt Try.underlying164 (zeroU w) (zd := .held (.slice none 0 0)) (zp := []) rfl key3
  have e : (DataW.map [] : DataW Value).atKey (.int .i64 3) (.held (.slice none 0 0)) = .held (.slice none 0 0) := rfl
  rw [e] at hv
  have : u = .slice none 0 0 := by cases hv; rfl
  rw [hrun, this]
  rfl
theorem MapIs.put {w : World} {b k : Nat} {D : DataW Value} (h : MapIs w b k D) (hD : D = .map [] ∨ ∃ u, D = one3 u) (hk : k ≤ 1000) (v : Value) :
    ∃ w', (Instr.mapUpdate 164 (.map (some b)) (.int .i64 3) v).run Try.prog w = .ok () w' ∧ MapIs w' b (k + 1) (one3 v) ∧ Mod (fun n => n = b) w w' := by
  obtain ⟨w', hrun, hown, hg⟩ := World.ownsMap.update h keyedInt Try.underlying164 (by rw [maxLen_eq]; omega) key3 (val := v) (d := .held v) (ps := []) rfl
  refine ⟨w', hrun, ?_, Mod.of_grown hg⟩
  have e : D.put (.int .i64 3) (.held v) = one3 v := by
    rcases hD with rfl | ⟨u, rfl⟩ <;> rfl
  rw [e] at hown
  exact hown
theorem MapIs.mod {w w' : World} {G : Nat → Prop} {b k : Nat} {D : DataW Value} (h : MapIs w b k D) (hm : Mod G w w') (hG : ¬ G b) : MapIs w' b k D := by
  have hlt : b < w.heap.size := World.ownsMap.lt h
  obtain ⟨es, clock, hb, r⟩ := h
  exact ⟨es, clock, (hm.block b hlt hG).trans hb, r⟩

/-- The table in memory: its map, how many requests. -/
def TabAt (w : World) (t b k : Nat) (D : DataW Value) (a : Nat) : Prop := w.heap[t]? = some (.cells #[.map (some b), .int .i64 a] 166 (0, 0)) ∧ MapIs w b k D
/-- Numbers in a row of the table's own. -/
def Nums (w : World) (base : Nat) (v : Value) (L : List Nat) : Prop := w.ownsRow base 73 1 v L.length (L.map fun n : Nat => Value.int .u32 (n : Int))

theorem Nums.shape {w : World} {b : Nat} {v : Value} {L : List Nat} (h : Nums w b v L) : ∃ a c, v = .slice a L.length c ∧ L.length ≤ c ∧ (L.length = 0 ∨ ∃ g cur, a = some ⟨g, 0, none⟩ ∧ w.heap[g]? = some (.cells cur 73 (0, 0)) ∧ b ≤ g ∧ cur.size = c ∧ ∀ i, i < L.length → cur[i]? = some (.int .u32 ((L[i]?.getD 0 : Nat) : Int))) := by
  rcases h.2 with ⟨hv, hn⟩ | ⟨g, cap, cur, hv, hb, hg, hnc, hcm, hcs, ht⟩
  · exact ⟨none, 0, by rw [hv, hn], by omega, .inl hn⟩
  · refine ⟨_, cap, hv, hnc, .inr ⟨g, cur, rfl, hg, hb, by omega, fun i hi => ?_⟩⟩
    have h1 : (L.map fun n : Nat => Value.int .u32 (n : Int))[i]? = some (.int .u32 ((L[i]?.getD 0 : Nat) : Int)) := by
      rw [List.getElem?_map, List.getElem?_eq_getElem hi]; rfl
    rw [← ht, List.getElem?_take, if_pos (by omega), Array.getElem?_toList] at h1
    exact h1

/-- The place of a number, or none. -/
def placeOf (L : List Nat) (n : Nat) : Option Nat := L.findIdx? (· == n)
set_option maxRecDepth 100000 in
set_option maxHeartbeats 800000 in
theorem Index_none (b : Nat) (v : Value) (L : List Nat) (n : Nat) (w : World) (h : Nums w b v L) (hn : n ∉ L) (hL : L.length ≤ 1000) :
    Calls Try.prog 103 #[v, .int .u32 n] w fun e w' => e = .returned (.int .i64 (-1)) ∧ w = w' := by
  obtain ⟨a, c, rfl, hc, hcell⟩ := h.shape
  have HC := Lib.hid hcell
  have HN := Lib.hid hn
  clear hcell hn
  go_enter Try.func103, Try.ntmps103
  go_wp2
  go_loop [8] (fun i => ∃ (k : Nat), k ≤ L.length ∧ i = .int .i64 k) (fun i => L.length - (intOf i).toNat)
  case atStart => exact ⟨0, by omega, rfl⟩
  case round =>
    obtain ⟨k, hk, rfl⟩ := hrel
    by_cases hlt : k < L.length
    · rcases HC.out with h0 | ⟨g, cur, rfl, hg, hb, hcs, hcell⟩
      · omega
      · have hck := (cell_heap hg k).trans (hcell k hlt)
        have hne : n ≠ L[k]?.getD 0 := fun e => HN.out (by rw [e, List.getElem?_eq_getElem hlt]; exact List.getElem_mem hlt)
        have hgl := lt_heap hg
        generalize L[k]?.getD 0 = x at *
        have hne2 : ((n : Int) == (x : Int)) = false := by simp; omega
        clear hg hcell HC hne
        go_wp2
        go_round
        case rel => exact ⟨k + 1, by omega, by go_num⟩
        case measure => simp [intOf]; omega
    · go_wp2
      go_ret
      exact ⟨rfl, rfl⟩
set_option maxRecDepth 100000 in
set_option maxHeartbeats 800000 in
theorem Index_some (b : Nat) (v : Value) (L : List Nat) (n i0 : Nat) (w : World) (h : Nums w b v L) (hn : L[i0]? = some n) (hf : ∀ j, j < i0 → L[j]?.getD 0 ≠ n) (hL : L.length ≤ 1000) :
    Calls Try.prog 103 #[v, .int .u32 n] w fun e w' => e = .returned (.int .i64 i0) ∧ w = w' := by
  obtain ⟨a, c, rfl, hc, hcell⟩ := h.shape
  have hi0 : i0 < L.length := (List.getElem?_eq_some_iff.1 hn).1
  have HC := Lib.hid hcell
  have HN := Lib.hid hn
  have HF := Lib.hid hf
  clear hcell hn hf
  go_enter Try.func103, Try.ntmps103
  go_wp2
  go_loop [8] (fun i => ∃ (k : Nat), k ≤ i0 ∧ i = .int .i64 k) (fun i => L.length - (intOf i).toNat)
  case atStart => exact ⟨0, by omega, rfl⟩
  case round =>
    obtain ⟨k, hk, rfl⟩ := hrel
    have hlt : k < L.length := by omega
    rcases HC.out with h0 | ⟨g, cur, rfl, hg, hb, hcs, hcell⟩
    · omega
    · have hck := (cell_heap hg k).trans (hcell k hlt)
      have hgl := lt_heap hg
      by_cases hki : k = i0
      · subst hki
        have hx : L[k]?.getD 0 = n := by rw [HN.out]; rfl
        rw [hx] at hck
        clear hg hcell HC hx
        go_wp2
        go_ret
        exact ⟨rfl, rfl⟩
      · have hne := HF.out k (by omega)
        generalize L[k]?.getD 0 = x at *
        have hne2 : ((n : Int) == (x : Int)) = false := by simp; omega
        clear hg hcell HC hne
        go_wp2
        go_round
        case rel => exact ⟨k + 1, by omega, by go_num⟩
        case measure => simp [intOf]; omega

set_option maxRecDepth 100000 in
set_option maxHeartbeats 800000 in
theorem SNew_calls (w : World) : Calls Try.prog 46 #[] w fun e w' => e = .returned (.pointer (some ⟨w.heap.size + 1, 0, none⟩)) ∧ Mod NoB w w' ∧ TabAt w' (w.heap.size + 1) w.heap.size 0 (.map []) 0 := by
  have hmm := @run_makeMap Try.prog
  go_enter Try.func46, Try.ntmps46
  go_wp2
  go_ret
  refine ⟨by simp, ?_, ?_, ?_⟩
  · (repeat (first | exact Mod.refl _ _ | refine Mod.drew ?_ | refine Mod.drewN _ ?_ | refine Mod.alloc ?_ _ | refine Mod.setCell ?_ _ _ (fun _ => rfl) | refine Mod.over' ?_ _ (fun _ _ h => h) | refine Mod.over' ?_ _ (fun _ _ h => h.elim)))
  · have := heap_alloc_new (w.alloc (.map #[] 0)) (.cells #[.map (some w.heap.size), .int .i64 0] 166)
    rw [size_alloc] at this
    exact this
  · exact (World.ownsMap_made w _ _ _).alloc _

set_option maxRecDepth 100000 in
set_option maxHeartbeats 800000 in
theorem SOpen_calls (t b : Nat) (w : World) (h : TabAt w t b 0 (.map []) 0) : Calls Try.prog 49 #[.pointer (some ⟨t, 0, none⟩), .int .i64 3] w fun e w' => e = .returned (.int .i64 0) ∧ Mod (fun k => k = b) w w' ∧ TabAt w' t b 1 (one3 (.slice none 0 0)) 0 := by
  obtain ⟨ht, hm⟩ := h
  have hl := hm.look0
  obtain ⟨w1, hrun, h1, hm1⟩ := hm.put (.inl rfl) (by omega) (.slice none 0 0)
  have hne : t ≠ b := fun e => by
    obtain ⟨es, clock, hb, _⟩ := hm
    rw [← e, ht] at hb
    cases hb
  have c0 := cell_heap ht 0
  have tb := lt_heap ht
  simp only [List.getElem?_toArray, List.getElem?_cons_zero] at c0
  have HT : Hid (TabAt w1 t b 1 (one3 (.slice none 0 0)) 0) := ⟨(hm1.block t tb hne).trans ht, h1⟩
  have HM := Lib.hid hm1
  clear hm1 h1 hm ht
  go_enter Try.func49, Try.ntmps49
  go_wp2
  go_ret
  exact ⟨rfl, HM.out, HT.out⟩
set_option maxRecDepth 100000 in
set_option maxHeartbeats 800000 in
theorem SIs_calls (t b k a : Nat) (v : Value) (w : World) (h : TabAt w t b k (one3 v) a) : Calls Try.prog 57 #[.pointer (some ⟨t, 0, none⟩), .int .i64 3] w fun e w' => e = .returned (.bool true) ∧ w = w' := by
  obtain ⟨ht, hm⟩ := h
  have hl := hm.look
  have c0 := cell_heap ht 0
  have tb := lt_heap ht
  simp only [List.getElem?_toArray, List.getElem?_cons_zero] at c0
  clear hm ht
  go_enter Try.func57, Try.ntmps57
  go_wp2
  go_ret
  exact ⟨rfl, rfl⟩
theorem SAll_calls (t b k a : Nat) (D : DataW Value) (w : World) (h : TabAt w t b k D a) : Calls Try.prog 60 #[.pointer (some ⟨t, 0, none⟩)] w fun e w' => e = .returned (.int .i64 a) ∧ w = w' := by
  obtain ⟨ht, hm⟩ := h
  have c1 := cell_heap ht 1
  have tb := lt_heap ht
  simp only [List.getElem?_toArray, List.getElem?_cons_succ, List.getElem?_cons_zero] at c1
  clear hm ht
  go_enter Try.func60, Try.ntmps60
  go_wp2
  go_ret
  exact ⟨rfl, rfl⟩

theorem infoU : ∃ i z, Try.prog.info? 73 = some i ∧ i.zero = some z ∧ i.size = 1 ∧ i.bytes = 4 ∧ z.cells.size = 1 := by
  obtain ⟨i, h1, h2, h3, h4⟩ := info_of (P := Try.prog) (t := 73) (z := .int .u32 0) (n := 1) (b := 4) (by kernel_rfl)
  exact ⟨i, _, h1, h2, h3, h4, rfl⟩
/-- A number is laid behind others. -/
theorem nums_append {W : World} {base q : Nat} {v : Value} {L : List Nat} {n : Nat} (ty : TypeId) (h : Nums W base v L) (hq : W.heap[q]? = some (.cells #[.int .u32 n] 73 (0, 0))) (hL : L.length ≤ 1000) (hb : base ≤ W.heap.size) :
    ∃ v' W', (Builtin.append_ #[79, 79] ty #[v, .slice (some ⟨q, 0, none⟩) 1 1]).run Try.prog W = .ok v' W' ∧ Nums W' base v' (L ++ [n]) ∧ W.grownBy W' v.ownBlock ∧ (v'.ownBlock = v.ownBlock ∨ v'.ownBlock = some W.heap.size) := by
  obtain ⟨i, z, hi, hz, hz1, hz2, hz3⟩ := infoU
  obtain ⟨v', W', hrun, how, hgr, _, hblk⟩ := run_append_own_at (P := Try.prog) W base 79 ty 73 i z 1 4 Try.underlying79 hi hz hz1 hz2 hz3 (by omega) v L.length _ h
    ⟨q, 0, none⟩ 1 1 [.int .u32 n] rfl (fun j u hj => by rw [Addr.add_mid, Nat.zero_add, cell_heap hq]; simpa using hj) (fun u hu => by rw [List.mem_singleton.1 hu]; rfl) (by rw [maxLen_eq]; omega) (by omega) hb
  refine ⟨v', W', hrun, ?_, hgr, hblk⟩
  unfold Nums
  rw [List.length_append, List.map_append]
  exact how

set_option maxRecDepth 100000 in
set_option maxHeartbeats 800000 in
theorem Contains_none (b : Nat) (v : Value) (L : List Nat) (n : Nat) (w : World) (h : Nums w b v L) (hn : n ∉ L) (hL : L.length ≤ 1000) :
    Calls Try.prog 106 #[v, .int .u32 n] w fun e w' => e = .returned (.bool false) ∧ w = w' := by
  have HI := Lib.hid (Index_none b v L n w h hn hL)
  clear h hn
  go_enter Try.func106, Try.ntmps106
  go_wp2_with fail
  refine HI.out.mono ?_
  rintro e w' ⟨rfl, rfl⟩
  go_wp2_with fail
  go_ret
  exact ⟨rfl, rfl⟩

set_option maxRecDepth 100000 in
set_option maxHeartbeats 1600000 in
theorem SBegin_quota (t b k a base : Nat) (v : Value) (L : List Nat) (n : Nat) (w : World) (h : TabAt w t b k (one3 v) a) (hv : Nums w base v L) (hn : n ∉ L) (hL : L.length = 4) :
    Calls Try.prog 55 #[.pointer (some ⟨t, 0, none⟩), .int .i64 3, .int .u32 n] w fun e w' => e = .returned (.int .i64 200) ∧ w = w' := by
  have HIS := Lib.hid (SIs_calls t b k a v w h)
  have HCO := Lib.hid (Contains_none base v L n w hv hn (by omega))
  obtain ⟨ht, hm⟩ := h
  have hl := hm.look1
  have c0 := cell_heap ht 0
  have tb := lt_heap ht
  simp only [List.getElem?_toArray, List.getElem?_cons_zero] at c0
  obtain ⟨av, cv, rfl, _, _⟩ := hv.shape
  rw [hL] at hl HCO
  clear hm ht hv hn
  go_enter Try.func55, Try.ntmps55
  go_wp2_with (first
    | (go_at_call 57; refine HIS.out.mono ?_; rintro e w' ⟨rfl, rfl⟩)
    | (go_at_call 106; refine HCO.out.mono ?_; rintro e w' ⟨rfl, rfl⟩))
  go_ret
  exact ⟨rfl, rfl⟩

set_option maxRecDepth 100000 in
set_option maxHeartbeats 1600000 in
theorem SBegin_ok (t b k a base : Nat) (v : Value) (L : List Nat) (n : Nat) (w : World) (h : TabAt w t b k (one3 v) a) (hv : Nums w base v L) (hn : n ∉ L) (hL : L.length < 4) (ha : a < 32) (hk : k ≤ 900) (hb : base ≤ w.heap.size) (hne : v.ownBlock ≠ some t ∧ v.ownBlock ≠ some b) :
    Calls Try.prog 55 #[.pointer (some ⟨t, 0, none⟩), .int .i64 3, .int .u32 n] w fun e w' => e = .returned (.int .i64 0) ∧ Mod (fun q => q = t ∨ q = b ∨ v.ownBlock = some q) w w' ∧
      ∃ v', TabAt w' t b (k + 1) (one3 v') (a + 1) ∧ Nums w' base v' (L ++ [n]) ∧ v'.ownBlock ≠ some t ∧ v'.ownBlock ≠ some b := by
  have HIS := Lib.hid (SIs_calls t b k a v w h)
  have HCO := Lib.hid (Contains_none base v L n w hv hn (by omega))
  obtain ⟨ht, hm⟩ := h
  have htb : t ≠ b := fun e => by
    obtain ⟨es, clock, hb, _⟩ := hm
    rw [← e, ht] at hb
    cases hb
  have hbl : b < w.heap.size := World.ownsMap.lt hm
  have hl := hm.look1
  have hm1 : Mod NoB w (w.drew.alloc (.cells #[.int .u32 n] 73)) := (Mod.refl NoB w).drew.alloc _
  have hl0 := (hm.mod ((Mod.refl NoB w).drew) id).look1
  have hl1 := (hm.mod hm1 id).look1
  have hl2 := (hm.mod (((Mod.refl NoB w).alloc (.cells #[.int .u32 n] 73)).drew) id).look1
  have c0 := cell_heap ht 0
  have c1 := cell_heap ht 1
  have tb := lt_heap ht
  simp only [List.getElem?_toArray, List.getElem?_cons_zero, List.getElem?_cons_succ] at c0 c1
  obtain ⟨v2, X1, hrun1, ho1, hg1, hk1⟩ := nums_append 79 (ownsRow_mod hv hm1 (fun _ _ => id)) (heap_alloc_new w.drew _) (by omega) (Nat.le_trans hb hm1.size)
  have hX1 : Mod (fun q => v.ownBlock = some q) w X1 := (hm1.mono (noB_sub _ _)).grown hg1 (fun q hq _ => hq)
  have hne2 : v2.ownBlock ≠ some t ∧ v2.ownBlock ≠ some b := by
    rcases hk1 with e | e
    · rw [e]; exact hne
    · rw [e, size_alloc, heap_drew]; constructor <;> (intro e2; simp only [Option.some.injEq] at e2; omega)
  have htX := (hX1.block t tb hne.1).trans ht
  have hmX := hm.mod hX1 hne.2
  obtain ⟨X2, hrun2, h2, hm2⟩ := hmX.put (.inr ⟨_, rfl⟩) (by omega) v2
  have htX2 := (hm2.block t (lt_heap htX) htb).trans htX
  have z1 := cell_heap htX2 1
  have zb := lt_heap htX2
  have zf := frozen_heap htX2
  have x0 := cell_heap htX 0
  have xb := lt_heap htX
  simp only [List.getElem?_toArray, List.getElem?_cons_zero, List.getElem?_cons_succ] at z1 x0
  obtain ⟨a2, n2, hv2, _, _⟩ := ho1.shape
  rw [show (L ++ [n]).length = L.length + 1 by simp] at hv2
  have HO := Lib.hid ho1
  have H2 := Lib.hid h2
  have HM2 := Lib.hid hm2
  have HX1 := Lib.hid hX1
  have HT2 := Lib.hid htX2
  have HNE := Lib.hid hne2
  have HTB := Lib.hid htb
  obtain ⟨av, cv, rfl, _, _⟩ := hv.shape
  subst hv2
  clear hm ht hv hn hm1 ho1 hg1 hk1 hX1 hne2 htX hmX h2 hm2 htX2 htb hbl hne
  go_enter Try.func55, Try.ntmps55
  go_wp2_with (first
    | (go_at_call 57; refine HIS.out.mono ?_; rintro e w' ⟨rfl, rfl⟩)
    | (go_at_call 106; refine HCO.out.mono ?_; rintro e w' ⟨rfl, rfl⟩))
  refine wp_region_staged [⟨0, 2, false⟩, ⟨0, 2, false⟩, ⟨0, 2, false⟩, ⟨0, 2, false⟩, ⟨0, 2, false⟩, ⟨0, 2, false⟩, ⟨0, 2, false⟩, ⟨0, 2, false⟩, ⟨0, 2, false⟩, ⟨0, 2, false⟩, ⟨0, 1, false⟩, ⟨0, 0, false⟩, ⟨0, 0, true⟩, ⟨1, 1, true⟩, ⟨2, 2, true⟩] 3 (clsOf ((fun W : World => [fun w' => ∃ _ : Unit, w' = W.drew, fun w' => ∃ _ : Unit, w' = W.drew.alloc (.cells #[.int .u32 n] 73), fun w' => ∃ _ : Unit, w' = X1, fun w' => ∃ _ : Unit, w' = X2]) _)) (by kernel_rfl) (by kernel_rfl) (by first | exact Cls.drew _ _ | exact ⟨(), rfl⟩) ?_
  refine wpSt_three rfl rfl rfl ⟨_, rfl, by simp⟩ ?_
  go_big_quiet_step (fail)
  refine wpQuiet_nil ?_
  go_big_quiet_step (fail)
  refine wpQuiet_nil ?_
  refine ⟨rfl, ?_⟩
  go_big_quiet_step (fail)
  refine wpQuiet_nil ?_
  refine ⟨rfl, ?_⟩
  refine wpSt_three rfl rfl rfl ⟨_, rfl, by simp⟩ ?_
  go_big_quiet_step (fail)
  refine wpQuiet_nil ?_
  go_big_quiet_step (fail)
  refine wpQuiet_nil ?_
  refine ⟨rfl, ?_⟩
  go_big_quiet_step (fail)
  refine wpQuiet_nil ?_
  refine ⟨rfl, ?_⟩
  refine wpSt_three rfl rfl rfl ⟨_, rfl, by simp⟩ ?_
  go_big_quiet_step (fail)
  refine wpQuiet_nil ?_
  go_big_quiet_step (fail)
  refine wpQuiet_nil ?_
  refine ⟨rfl, ?_⟩
  go_big_quiet_step (fail)
  refine wpQuiet_nil ?_
  refine ⟨rfl, ?_⟩
  refine wpSt_three rfl rfl rfl ⟨_, rfl, by simp⟩ ?_
  go_big_quiet_step (fail)
  refine wpQuiet_nil ?_
  go_big_quiet_step (fail)
  refine wpQuiet_nil ?_
  refine ⟨rfl, ?_⟩
  go_big_quiet_step (fail)
  refine wpQuiet_nil ?_
  refine ⟨rfl, ?_⟩
  refine wpSt_three rfl rfl rfl ⟨_, rfl, by simp⟩ ?_
  go_big_quiet_step (fail)
  refine wpQuiet_nil ?_
  go_big_quiet_step (fail)
  refine wpQuiet_nil ?_
  refine ⟨rfl, ?_⟩
  go_big_quiet_step (fail)
  refine wpQuiet_nil ?_
  refine ⟨rfl, ?_⟩
  refine wpSt_three rfl rfl rfl ⟨_, rfl, by simp⟩ ?_
  go_big_quiet_step (fail)
  refine wpQuiet_nil ?_
  go_big_quiet_step (fail)
  refine wpQuiet_nil ?_
  refine ⟨rfl, ?_⟩
  go_big_quiet_step (fail)
  refine wpQuiet_nil ?_
  refine ⟨rfl, ?_⟩
  refine wpSt_three rfl rfl rfl ⟨_, rfl, by simp⟩ ?_
  go_big_quiet_step (fail)
  refine wpQuiet_nil ?_
  go_big_quiet_step (fail)
  refine wpQuiet_nil ?_
  refine ⟨rfl, ?_⟩
  go_big_quiet_step (fail)
  refine wpQuiet_nil ?_
  refine ⟨rfl, ?_⟩
  refine wpSt_three rfl rfl rfl ⟨_, rfl, by simp⟩ ?_
  go_big_quiet_step (fail)
  refine wpQuiet_nil ?_
  go_big_quiet_step (fail)
  refine wpQuiet_nil ?_
  refine ⟨rfl, ?_⟩
  go_big_quiet_step (fail)
  refine wpQuiet_nil ?_
  refine ⟨rfl, ?_⟩
  refine wpSt_three rfl rfl rfl ⟨_, rfl, by simp⟩ ?_
  go_big_quiet_step (fail)
  refine wpQuiet_nil ?_
  go_big_quiet_step (fail)
  refine wpQuiet_nil ?_
  refine ⟨rfl, ?_⟩
  go_big_quiet_step (fail)
  refine wpQuiet_nil ?_
  refine ⟨rfl, ?_⟩
  refine wpSt_three rfl rfl rfl ⟨_, rfl, by simp⟩ ?_
  go_big_quiet_step (fail)
  refine wpQuiet_nil ?_
  go_big_quiet_step (fail)
  refine wpQuiet_nil ?_
  refine ⟨rfl, ?_⟩
  go_big_quiet_step (fail)
  refine wpQuiet_nil ?_
  refine ⟨rfl, ?_⟩
  refine wpSt_two rfl rfl ⟨_, rfl, by simp⟩ ?_
  go_big_quiet_step (fail)
  refine wpQuiet_nil ?_
  go_big_quiet_step (fail)
  refine wpQuiet_nil ?_
  refine ⟨rfl, ?_⟩
  refine wpSt_same rfl ?_
  go_big_quiet_step (fail)
  refine wpQuiet_nil ?_
  apply wpSt_loud _ rfl rfl rfl
  · (rintro _ ⟨x, rfl⟩; unfold loudAt; go_simp; first | done | rfl | exact ⟨rfl, rfl⟩ | exact ⟨rfl, ⟨(), rfl⟩⟩)
  simp only [Act.put, List.setIfInBounds_toArray, List.set_cons_succ, List.set_cons_zero]
  apply wpSt_loud _ rfl rfl rfl
  · (rintro _ ⟨x, rfl⟩; exact loudAt_append _ _ _ rfl rfl rfl (by assumption) (by first | exact ⟨(), rfl⟩ | rfl))
  simp only [Act.put, List.setIfInBounds_toArray, List.set_cons_succ, List.set_cons_zero]
  refine wpSt_store rfl rfl rfl rfl ?_ ?_
  · (rintro _ ⟨x, rfl⟩; unfold loudAt; go_simp; first | done | exact ⟨_, rfl⟩)
  refine wpSt_nil ?_
  rintro _ ⟨_, hX⟩
  obtain rfl := hX.symm
  go_wp2
  go_ret
  have hs : Mod (fun q => q = t) X2 (X2.setCell ⟨t, 1, none⟩ (.int .i64 ((a : Int) + 1))) := (Mod.refl _ _).setCell _ _ (fun _ => rfl)
  refine ⟨rfl, ?_, .slice a2 (L.length + 1) n2, ⟨?_, H2.out.mod hs (fun e => HTB.out e.symm)⟩, ownsRow_mod (ownsRow_mod HO.out HM2.out (fun q hq e => HNE.out.2 (e ▸ hq))) hs (fun q hq e => HNE.out.1 (e ▸ hq)), HNE.out⟩
  · exact ((HX1.out.mono (fun _ _ e => .inr (.inr e))).trans HM2.out (fun _ _ e => .inr (.inl e))).trans hs (fun _ _ e => .inl e)
  · have e : ((a : Int) + 1) = ((a + 1 : Nat) : Int) := by omega
    rw [e, heap_setCell_same, HT2.out]
    rfl

end Go.Proofs.Ytgofngilfdnakaa
