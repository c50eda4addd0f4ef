/-
  This text proves what cupelref03.Disk's Now, strike and Sync compute: for few files and changes, no falls.
-/
import Derived.Test.YtgofngilfdnakaaRefF
import Derived.Test.YtgofngilfdnakaaDiskQ
namespace Go.Proofs.Ytgofngilfdnakaa
open Go Go.RowKit
attribute [local go_sem] over_cell over_frozen lt_over le_over noB loudUpon ByteArray.mk_append_mk ByteArray.extract_mk

/-- A change as the reference keeps it. -/
structure OkR (c : Chg) : Prop where
  kind : c.kind ≤ 4
  two : c.kind = 2 → c.name ≠ c.to
  four : c.kind = 4 → 0 ≤ c.n
  s : c.s.length ≤ 60
/-- Changes in a slice. -/
def CR [Away] (w : World) (v : Value) (L : List Chg) : Prop := w.ownsRow 0 178 5 v L.length (L.flatMap Chg.cells) ∧ OutS w v
theorem CR.mod [Away] {w w' : World} {v : Value} {L : List Chg} (h : CR w v L) (hm : Mod NoB w w') : CR w' v L := ⟨ownsRow_mod h.1 hm (fun _ _ => id), h.2.later hm.size⟩
theorem CR.upd [Away] {w w' : World} {v : Value} {L : List Chg} {G : Nat → Prop} (h : CR w v L) (hm : Mod G w w') (hG : ∀ q, v.ownBlock = some q → ¬ G q) : CR w' v L := ⟨ownsRow_mod h.1 hm hG, h.2.later hm.size⟩
theorem CR.offs [Away] {w : World} {base : Nat} {v : Value} {L : List Chg} (h : w.ownsRow base 178 5 v L.length (L.flatMap Chg.cells)) (hb : ∀ q, Away.S q → q < base) (hw : base ≤ w.heap.size) : CR w v L := ⟨row_base h (Nat.zero_le _), OutS.row h hb hw⟩
theorem chgs_at : ∀ (L : List Chg) (k : Nat) (hk : k < L.length) (j : Nat), j < 5 → (L.flatMap Chg.cells)[k * 5 + j]? = (Chg.cells L[k])[j]?
  | [], k, hk, _, _ => by simp at hk
  | c :: L, 0, _, j, hj => by
    rw [List.flatMap_cons, Nat.zero_mul, Nat.zero_add, List.getElem?_append_left (by simpa [Chg.cells] using hj)]
    rfl
  | c :: L, k + 1, hk, j, hj => by
    have := chgs_at L k (by simpa using hk) j hj
    rw [List.flatMap_cons, List.getElem?_append_right (by simp [Chg.cells]; omega), show (k + 1) * 5 + j - (Chg.cells c).length = k * 5 + j by simp [Chg.cells]; omega, this]
    rfl
theorem CR.cells [Away] {w : World} {v : Value} {L : List Chg} (h : CR w v L) : ∃ a c, v = .slice a L.length c ∧ L.length ≤ c ∧ ∀ k, (hk : k < L.length) → ∃ q, a = some ⟨q, 0, none⟩ ∧ q < w.heap.size ∧
    w.cell? ⟨q, k * 5, none⟩ = some (.int .i64 L[k].kind) ∧ w.cell? ⟨q, k * 5 + 1, none⟩ = some (.string ⟨L[k].name.toArray⟩) ∧ w.cell? ⟨q, k * 5 + 2, none⟩ = some (.string ⟨L[k].to.toArray⟩) ∧ w.cell? ⟨q, k * 5 + 3, none⟩ = some (.string ⟨L[k].s.toArray⟩) ∧ w.cell? ⟨q, k * 5 + 4, none⟩ = some (.int .i64 L[k].n) := by
  rcases h.1.2 with ⟨hv, hn⟩ | ⟨g, cap, cur, hv, _, hg, hnc, hcm, hcs, ht⟩
  · exact ⟨none, 0, by rw [hv, hn], by omega, fun k hk => by omega⟩
  · refine ⟨_, cap, hv, hnc, fun k hk => ⟨g, rfl, lt_heap hg, ?_⟩⟩
    have key : ∀ j, j < 5 → cur[k * 5 + j]? = (Chg.cells L[k])[j]? := fun j hj => by
      rw [← chgs_at L k hk j hj, ← ht, List.getElem?_take, if_pos (by omega), Array.getElem?_toList]
    rw [cell_heap hg, cell_heap hg, cell_heap hg, cell_heap hg, cell_heap hg]
    exact ⟨key 0 (by omega), key 1 (by omega), key 2 (by omega), key 3 (by omega), key 4 (by omega)⟩

theorem rDo_ok {F : Files} {c : Chg} (h : Sorted F) (hc : OkR c) : rDo F c = F.act c := rDo_act h hc.two hc.four hc.kind
theorem acts_bounds {F : Files} {L : List Chg} (hok : ∀ c ∈ L, OkR c) : (L.foldl Files.act F).length ≤ F.length + L.length ∧ (L.foldl Files.act F).size ≤ F.size + 60 * L.length := by
  refine ⟨Files.acts_length L F, Nat.le_trans (Files.acts_size L F (fun c hc => (hok c hc).two)) (Nat.add_le_add_left ?_ _)⟩
  clear F
  induction L with
  | nil => simp [sumS]
  | cons c L ih =>
    rw [sumS_cons, List.length_cons]
    have h1 := (hok c List.mem_cons_self).s
    have h2 := ih (fun d hd => hok d (List.mem_cons_of_mem _ hd))
    omega
theorem Disk6.facts {w : World} {D : Nat} {x0 x1 x2 x3 x4 x5 : Value} {T : TypeId} (h : w.heap[D]? = some (.cells #[x0, x1, x2, x3, x4, x5] T (0, 0))) : D < w.heap.size ∧ w.cell? ⟨D, 0, none⟩ = some x0 ∧ w.cell? ⟨D, 1, none⟩ = some x1 ∧ w.cell? ⟨D, 2, none⟩ = some x2 ∧ w.cell? ⟨D, 3, none⟩ = some x3 ∧
    w.cell? ⟨D, 4, none⟩ = some x4 ∧ w.cell? ⟨D, 5, none⟩ = some x5 ∧ ∀ i, w.frozen? ⟨D, i, none⟩ = false :=
  ⟨lt_heap h, (cell_heap h 0).trans rfl, (cell_heap h 1).trans rfl, (cell_heap h 2).trans rfl, (cell_heap h 3).trans rfl, (cell_heap h 4).trans rfl, (cell_heap h 5).trans rfl, frozen_heap h⟩

set_option maxRecDepth 100000 in
set_option maxHeartbeats 3200000 in
theorem rnow_calls [Away] (sv lv fv : Value) (F : Files) (L : List Chg) (room ch : Int) (dn : Bool) (w : World) (hF : FR w sv F) (hL : CR w lv L) (hS : Sorted F) (hok : ∀ c ∈ L, OkR c) (hn : F.length + L.length ≤ 500) (hz : F.size + 60 * L.length ≤ 1000000) (hfv : ∃ a n c, fv = .slice a n c) :
    Calls Try.prog 63 #[.agg #[sv, lv, .int .i64 room, fv, .int .i64 ch, .bool dn]] w fun e w' => ∃ v', e = .returned v' ∧ FR w' v' (L.foldl Files.act F) ∧ Mod NoB w w' := by
  obtain ⟨a1, c1, rfl, _, _⟩ := hF.cells
  obtain ⟨a2, c2, rfl, hc2, hcell⟩ := hL.cells
  obtain ⟨a3, n3, c3, rfl⟩ := hfv
  obtain ⟨W, hW⟩ : ∃ W, w.alloc (.cells #[.slice a1 F.length c1, .slice a2 L.length c2, .int .i64 room, .slice a3 n3 c3, .int .i64 ch, .bool dn] 99) = W := ⟨_, rfl⟩
  have hm0 : Mod NoB w W := by rw [← hW]; exact (Mod.refl _ _).alloc _
  obtain ⟨D, hD⟩ : ∃ D, w.heap.size = D := ⟨_, rfl⟩
  have hbx : W.heap[D]? = some (.cells #[.slice a1 F.length c1, .slice a2 L.length c2, .int .i64 room, .slice a3 n3 c3, .int .i64 ch, .bool dn] 99 (0, 0)) := by rw [← hW, ← hD]; exact heap_alloc_new _ _
  have HC := Lib.hid hcell
  have HB := Lib.hid hbx
  have HM0 := Lib.hid hm0
  have HF := Lib.hid hF
  have HS := Lib.hid hS
  have HOK := Lib.hid hok
  obtain ⟨db, d0, d1, d2, d3, d4, d5, df⟩ := Disk6.facts hbx
  clear hcell hm0 hbx hF hL hS hok
  go_enter Try.func63, Try.ntmps63
  go_wp2_with fail
  clear hW hD
  have HINI : Hid (FR W (.slice a1 F.length c1) ((L.take 0).foldl Files.act F) ∧ Mod NoB W W) := ⟨HF.out.mod HM0.out, Mod.refl _ _⟩
  go_loopw [3, 4] (fun l i wr => ∃ k : Nat, k ≤ L.length ∧ i = .int .i64 k ∧ Hid (FR wr l ((L.take k).foldl Files.act F) ∧ Mod NoB W wr)) (fun _ i _ => L.length - (intOf i).toNat)
  case atStart => exact ⟨0, by omega, rfl, HINI⟩
  case round =>
    obtain ⟨k, hk, rfl, HR⟩ := hrel
    have hmw : Mod NoB w wr := HM0.out.trans HR.out.2 (fun _ _ h => h)
    obtain ⟨yb, y0, y1, y2, y3, y4, y5, yf⟩ := Disk6.facts ((HR.out.2.block D db id).trans HB.out)
    by_cases hlt : k < L.length
    · obtain ⟨q, rfl, hq, e0, e1, e2, e3, e4⟩ := HC.out k hlt
      rw [← World.cell?_of_block (w := w) (hmw.block q hq id)] at e0 e1 e2 e3 e4
      have hqw := Nat.lt_of_lt_of_le hq hmw.size
      have hcok := HOK.out _ (List.getElem_mem hlt)
      have hpre : ∀ c ∈ L.take k, OkR c := fun c hc => HOK.out c (List.mem_of_mem_take hc)
      have hbd := acts_bounds (F := F) hpre
      have hl := List.length_take_le k L
      have hstep : (L.take (k + 1)).foldl Files.act F = rDo ((L.take k).foldl Files.act F) L[k] := by
        rw [List.take_succ_eq_append_getElem hlt, List.foldl_append, rDo_ok (acts_sorted _ _ HS.out) hcok]
        rfl
      generalize (L.take k).foldl Files.act F = G at *
      generalize L[k] = c at *
      obtain ⟨kd, nm, tt, ss, nn⟩ := c
      simp only at e0 e1 e2 e3 e4
      have hs60 := hcok.s
      have hk4 := hcok.kind
      simp only at hs60 hk4
      have HDO := Lib.hid (rdo_calls _ G kd nm tt ss nn wr HR.out.1 (by omega) (by omega) (by omega) hk4 hcok.four)
      have HST := Lib.hid hstep
      have HRM := Lib.hid HR.out.2
      clear hmw hcok hpre hbd hl hstep HR
      go_wp2_with fail
      refine HDO.out.mono ?_
      rintro e W2 ⟨v2, rfl, hf2, hm2⟩
      have HR2 : Hid (FR W2 v2 ((L.take (k + 1)).foldl Files.act F) ∧ Mod NoB W W2) := ⟨by rw [HST.out]; exact hf2, HRM.out.trans hm2 (fun _ _ h => h)⟩
      clear hf2 hm2 HDO HST HRM
      go_wp2_with fail
      go_roundw
      case rel => exact ⟨k + 1, by omega, by go_num, HR2⟩
      case measure => simp [intOf]; omega
    · have hke : k = L.length := by omega
      subst hke
      rw [List.take_length] at HR
      have HRR : Hid (FR wr _ (L.foldl Files.act F) ∧ Mod NoB w wr) := ⟨HR.out.1, hmw⟩
      clear HR hmw
      go_wp2_with fail
      go_ret
      exact ⟨_, rfl, HRR.out⟩

set_option maxRecDepth 100000 in
set_option maxHeartbeats 1600000 in
theorem strike_calls (sv lv : Value) (room ch : Int) (dn : Bool) (w : World) (h1 : ∃ a n c, sv = .slice a n c) (h2 : ∃ a n c, lv = .slice a n c) :
    Calls Try.prog 145 #[.agg #[sv, lv, .int .i64 room, .slice none 0 0, .int .i64 ch, .bool dn]] w fun e w' => e = .returned (.tuple #[.agg #[sv, lv, .int .i64 room, .slice none 0 0, .int .i64 ch, .bool dn], .bool false]) ∧ Mod NoB w w' := by
  obtain ⟨a1, n1, c1, rfl⟩ := h1
  obtain ⟨a2, n2, c2, rfl⟩ := h2
  go_enter Try.func145, Try.ntmps145
  go_wp2_with fail
  go_loop [4] (fun i => i = .int .i64 0) (fun _ => 0)
  case atStart => rfl
  case round =>
    subst hrel
    go_wp2_with fail
    refine bodyPost_ret (v := .tuple #[.agg #[.slice a1 n1 c1, .slice a2 n2 c2, .int .i64 room, .slice none 0 0, .int .i64 ch, .bool dn], .bool false]) (by simp [results, Try.f145, go_sem]) rfl ⟨rfl, ?_⟩
    (repeat (first | exact Mod.refl _ _ | refine Mod.drew ?_ | refine Mod.drewN _ ?_ | refine Mod.alloc ?_ _ | refine Mod.setCell ?_ _ _ (fun _ => rfl) | refine Mod.over' ?_ _ (fun _ _ h => h) | refine Mod.over' ?_ _ (fun _ _ h => h.elim)))

theorem type_same {w : World} {q : Nat} {c c' : Array Value} {t t' : TypeId} {f f' : Nat × Nat} (h : w.heap[q]? = some (.cells c t f)) (h' : w.heap[q]? = some (.cells c' t' f')) : t = t' := by
  rw [h] at h'
  cases h'
  rfl
/-- A row's block is of its elements' type. -/
theorem row_type {w : World} {base size n q : Nat} {E T : TypeId} {v : Value} {xs : List Value} {c : Array Value} {f : Nat × Nat} (h : w.ownsRow base E size v n xs) (hq : v.ownBlock = some q) (hc : w.heap[q]? = some (.cells c T f)) : E = T := by
  rcases h.2 with ⟨h1, _⟩ | ⟨g, cap, cur, h1, _, h2, _⟩
  · rw [h1] at hq; cases hq
  · rw [h1] at hq
    simp only [Value.ownBlock, Option.some.injEq] at hq
    subst hq
    exact type_same h2 hc
theorem at_world {P : World → Prop} {w : World} (F : World → Prop) (h : F w) (k : ∀ w, F w → P w) : P w := k w h
set_option maxRecDepth 100000 in
set_option maxHeartbeats 1600000 in
theorem rsync_calls [Away] (sv lv fv : Value) (F : Files) (L : List Chg) (room ch : Int) (w : World) (hF : FR w sv F) (hL : CR w lv L) (hS : Sorted F) (hok : ∀ c ∈ L, OkR c) (hn : F.length + L.length ≤ 500) (hz : F.size + 60 * L.length ≤ 1000000) (hfv : ∃ a n c, fv = .slice a n c) :
    Calls Try.prog 62 #[.agg #[sv, lv, .int .i64 room, fv, .int .i64 ch, .bool false]] w fun e w' => ∃ v', e = .returned (.tuple #[.agg #[v', .slice none 0 0, .int .i64 room, fv, .int .i64 ch, .bool false], .int .i64 0]) ∧ FR w' v' (L.foldl Files.act F) ∧ Mod NoB w w' := by
  have HN := Lib.hid (fun X (hX : Mod NoB w X) => rnow_calls sv lv fv F L room ch false X (hF.mod hX) (hL.mod hX) hS hok hn hz hfv)
  obtain ⟨a1, c1, rfl, _, _⟩ := hF.cells
  obtain ⟨a2, c2, rfl, _, _⟩ := hL.cells
  obtain ⟨a3, n3, c3, rfl⟩ := hfv
  clear hF hL hS hok hn hz
  obtain ⟨W, hW⟩ : ∃ W, (w.alloc (.cells #[.slice a1 F.length c1, .slice a2 L.length c2, .int .i64 room, .slice a3 n3 c3, .int .i64 ch, .bool false] 99)).alloc (.cells #[.slice none 0 0, .slice none 0 0, .int .i64 0, .slice none 0 0, .int .i64 0, .bool false] 99) = W := ⟨_, rfl⟩
  have hm0 : Mod NoB w W := by rw [← hW]; exact ((Mod.refl _ _).alloc _).alloc _
  have hP : W.heap[w.heap.size]? = some (.cells #[.slice a1 F.length c1, .slice a2 L.length c2, .int .i64 room, .slice a3 n3 c3, .int .i64 ch, .bool false] 99 (0, 0)) := by
    rw [← hW, heap_alloc_lt _ _ _ (by rw [size_alloc]; omega)]
    exact heap_alloc_new _ _
  have hR : W.heap[w.heap.size + 1]? = some (.cells #[.slice none 0 0, .slice none 0 0, .int .i64 0, .slice none 0 0, .int .i64 0, .bool false] 99 (0, 0)) := by
    rw [← hW]
    have := heap_alloc_new (w.alloc (.cells #[.slice a1 F.length c1, .slice a2 L.length c2, .int .i64 room, .slice a3 n3 c3, .int .i64 ch, .bool false] 99)) (.cells #[.slice none 0 0, .slice none 0 0, .int .i64 0, .slice none 0 0, .int .i64 0, .bool false] 99)
    rwa [size_alloc] at this
  obtain ⟨db, d0, d1, d2, d3, d4, d5, df⟩ := Disk6.facts hP
  obtain ⟨rb, r0, r1, r2, r3, r4, r5, rf⟩ := Disk6.facts hR
  have HM0 := Lib.hid hm0
  have HP := Lib.hid hP
  have HR := Lib.hid hR
  clear hm0 hP hR
  go_enter Try.func62, Try.ntmps62
  go_wp2_with fail
  clear hW
  refine (HN.out _ HM0.out).mono ?_
  rintro e W2 ⟨v2, rfl, hf2, hm2⟩
  obtain ⟨a5, c5, rfl, _, _⟩ := hf2.cells
  have HP2 := Lib.hid ((hm2.block _ db id).trans HP.out)
  have HR2 := Lib.hid ((hm2.block _ rb id).trans HR.out)
  obtain ⟨xb, x0, x1, x2, x3, x4, x5, xf⟩ := Disk6.facts HP2.out
  obtain ⟨yb, y0, y1, y2, y3, y4, y5, yf⟩ := Disk6.facts HR2.out
  have HF2 := Lib.hid hf2
  have HM2 := Lib.hid hm2
  clear hf2 hm2 d0 d1 d2 d3 d4 d5 df r0 r1 r2 r3 r4 r5 rf HN HP HR db rb
  go_wp2_with fail
  refine at_world (P := bodyPost _ _ _ _ _) (fun X => X.heap[w.heap.size + 1]? = some (.cells #[.slice a5 (L.foldl Files.act F).length c5, .slice none 0 0, .int .i64 room, .slice a3 n3 c3, .int .i64 ch, .bool false] 99 (0, 0)) ∧ Mod (fun k => k = w.heap.size ∨ k = w.heap.size + 1) W2 X) ?_ ?_
  · refine ⟨?_, ?_⟩
    · simp only [heap_setCell, if_true, show ¬ (w.heap.size + 1 = w.heap.size) by omega, if_false, HR2.out, Option.map_some, setAt_cells, List.setIfInBounds_toArray, List.set_cons_zero, List.set_cons_succ]
    · repeat (first | with_reducible exact Mod.refl _ _ | ((with_reducible refine Mod.setCell ?_ _ _ ?_); rotate_left; (intro _; simp)))
  · rintro X ⟨hRX, hMX⟩
    obtain ⟨zb, z0, z1, z2, z3, z4, z5, zf⟩ := Disk6.facts hRX
    refine bodyPost_ret (v := .tuple #[.agg #[.slice a5 (L.foldl Files.act F).length c5, .slice none 0 0, .int .i64 room, .slice a3 n3 c3, .int .i64 ch, .bool false], .int .i64 0]) (by simp [results, Try.f62, go_sem, z0, z1, z2, z3, z4, z5]) rfl ⟨_, rfl, ?_, ?_⟩
    · refine HF2.out.upd hMX (fun q hq e => ?_)
      rcases e with e | e
      · rw [e] at hq; exact absurd (row_type HF2.out.1 hq HP2.out) (by decide)
      · rw [e] at hq; exact absurd (row_type HF2.out.1 hq HR2.out) (by decide)
    · exact (HM0.out.trans HM2.out (fun _ _ h => h)).trans hMX (fun q hq e => by omega)

end Go.Proofs.Ytgofngilfdnakaa
