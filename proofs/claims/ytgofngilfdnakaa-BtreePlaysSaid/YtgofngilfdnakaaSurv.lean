/-
  This text proves what disk.survivors yields: of at most 10^9 changes.
-/
import Derived.Test.YtgofngilfdnakaaRange
import Derived.Test.YtgofngilfdnakaaDiskC
import Derived.Laws.Bits
import Derived.Lib.MinMax
namespace Go.Proofs.Ytgofngilfdnakaa
open Go Go.RowKit
attribute [local go_sem] over_cell over_frozen lt_over le_over noB loudUpon ByteArray.mk_append_mk ByteArray.extract_mk Oper.semAt_some

theorem and_one_i64 (x : Int) : bits .and .i64 x 1 = x % 2 := by
  show IntKind.i64.wrap ((BitVec.ofInt 64 x &&& BitVec.ofInt 64 1).toNat : Int) = _
  have h1 : (BitVec.ofInt 64 1).toNat = 1 := by decide
  rw [BitVec.toNat_and, h1, Nat.and_one_is_mod, BitVec.toNat_ofInt]
  have h2 : (((x % ((2 ^ 64 : Nat) : Int)).toNat % 2 : Nat) : Int) = x % 2 := by omega
  rw [h2]
  have : x % 2 = 0 ∨ x % 2 = 1 := by omega
  rcases this with h | h <;> rw [h] <;> decide

theorem surv_end (keep torn : Int) (k : Nat) (l : List Chg) (h : l.length ≤ k) : surv keep torn k (l.drop k) = [] := by
  rw [List.drop_eq_nil_of_le h, surv]

theorem flat_get : ∀ (l : List Chg) (k j : Nat) (c : Chg), l[k]? = some c → j < 5 → (l.flatMap Chg.cells)[k * 5 + j]? = c.cells[j]?
  | [], _, _, _, h, _ => by simp at h
  | x :: r, 0, j, c, h, hj => by
    simp only [List.getElem?_cons_zero, Option.some.injEq] at h
    subst h
    rw [List.flatMap_cons, Nat.zero_mul, Nat.zero_add, List.getElem?_append_left (by simpa [Chg.cells] using hj)]
  | x :: r, k + 1, j, c, h, hj => by
    have hl : x.cells.length = 5 := rfl
    rw [List.flatMap_cons, List.getElem?_append_right (by omega), hl, show (k + 1) * 5 + j - 5 = k * 5 + j by omega]
    exact flat_get r k j c (by simpa using h) hj

set_option maxRecDepth 100000 in
set_option maxHeartbeats 1600000 in
theorem survivors1_in (m : DM) (d : Dk) (keep torn : Int) (bd0 bk bt : Nat) (n : Nat) (w : World) (h : DiskAt w m d)
    (hbd : w.heap[bd0]? = some (.cells #[.pointer (some ⟨m.bd, 0, none⟩)] 23)) (hbk : w.heap[bk]? = some (.cells #[.int .i64 keep] 3)) (hbt : w.heap[bt]? = some (.cells #[.int .i64 torn] 3))
    (hl : d.loose.length ≤ 1000000000) (hbl : ∀ k, m.foot k → k ≠ bt) (h2 : bk ≠ bt) :
    SeqMod Fence.wide n Try.prog 135 #[.pointer (some ⟨bd0, 0, none⟩), .pointer (some ⟨bk, 0, none⟩), .pointer (some ⟨bt, 0, none⟩)] (fun c : Chg => #[.agg c.cells.toArray]) (fun k => k = bt) (fun k => k = m.bs) (surv keep torn 0 d.loose) w := by
  intro l J W hm hJ hY h0
  have h' := h.mod hm (fun _ _ => id)
  obtain ⟨hb, c0, c1, c2, c3, c4, c5, c6, hf⟩ := h'.facts
  have e0 := (hm.block bd0 (lt_heap hbd) id).trans hbd
  have e1 := (hm.block bk (lt_heap hbk) id).trans hbk
  have e2 := (hm.block bt (lt_heap hbt) id).trans hbt
  have d0 := cell_heap e0 0
  have q0 := lt_heap e0
  have hrow : ∃ a cap, m.vl = .slice a d.loose.length cap ∧ ∀ k c, d.loose[k]? = some c → ∃ g, a = some ⟨g, 0, none⟩ ∧ g < w.heap.size ∧ g ≠ bt ∧ g ≠ m.bs ∧ ∀ j, j < 5 → W.cell? ⟨g, k * 5 + j, none⟩ = c.cells[j]? := by
    obtain ⟨hlen, ⟨hv, hn0⟩ | ⟨g, cap, cur, hv, _, hg, hnc, hcm, hcs, htake⟩⟩ := h'.loose
    · refine ⟨none, 0, by rw [hv, hn0], fun k c hk => ?_⟩
      have := (List.getElem?_eq_some_iff.1 hk).1
      omega
    · refine ⟨_, cap, hv, fun k c hk => ⟨g, rfl, h.foot_lt (.inr (.inr (.inr (.inl (by rw [hv]; rfl))))), hbl g (.inr (.inr (.inr (.inl (by rw [hv]; rfl))))), fun e => ?_, fun j hj => ?_⟩⟩
      · obtain ⟨es, cl, hbs⟩ := h'.sure.heap
        rw [e, hbs] at hg
        cases hg
      · have hkl := (List.getElem?_eq_some_iff.1 hk).1
        rw [cell_heap hg, ← flat_get _ _ _ _ hk hj, ← htake, List.getElem?_take, if_pos (by omega)]
        simp
  have hnb : bk ≠ m.bs ∧ bt ≠ m.bs := by
    obtain ⟨es, cl, hbs⟩ := h'.sure.heap
    refine ⟨fun e => ?_, fun e => ?_⟩
    · rw [e, hbs] at e1; cases e1
    · rw [e, hbs] at e2; cases e2
  obtain ⟨a, cap, hv, hcell⟩ := hrow
  rw [hv] at c2
  have q1 := lt_heap hbk
  have q2 := lt_heap hbt
  have HC := Lib.hid hcell
  have HY := Lib.hid hY
  have HJ := Lib.hid hJ
  have H0 := Lib.hid h0
  have HE1 := Lib.hid e1
  have HE2 := Lib.hid e2
  have HSZ := Lib.hid hm.size
  have HNB := Lib.hid hnb
  clear hcell hY hJ h0 h' h hm hbd hbk hbt hbl e1 e2 hnb
  refine callsIn_of_wp Try.func135 rfl trivial ?_ rfl
  simp only [Try.ntmps135, List.size_toArray, List.length_cons, List.length_nil, Nat.reduceAdd, Nat.reduceSub, Array.replicate_succ, Array.replicate_zero, List.push_toArray, List.append_toArray, List.nil_append, List.cons_append]
  gi_wp2
  gi_loopw [13] (fun i wr => ∃ (k : Nat) (pre : List Chg) (tk : Int), k ≤ d.loose.length ∧ i = .int .i64 k ∧ Hid (J pre wr) ∧ Hid (pre ++ surv keep tk k (d.loose.drop k) = surv keep torn 0 d.loose) ∧ Hid (wr.heap[bt]? = some (.cells #[.int .i64 tk] 3)) ∧ Hid (Mod (fun k => k = bt ∨ k = m.bs ∨ w.heap.size ≤ k) W wr))
      (fun i _ => d.loose.length - (intOf i).toNat)
  case atStart => exact ⟨0, [], torn, by omega, rfl, H0, by simp [Hid], HE2, Mod.refl _ _⟩
  case round =>
    clear H0 HE2 c0 c1 c2 c3 c4 c5 c6 d0
    obtain ⟨k, pre, tk, hk, rfl, HJ1, HP, HT, HM⟩ := hrel
    by_cases hlt : k < d.loose.length
    · have hget : d.loose[k]? = some d.loose[k] := List.getElem?_eq_getElem hlt
      obtain ⟨g, rfl, g1, g2, g3, gc⟩ := HC.out k _ hget
      have hdrop : d.loose.drop k = d.loose[k] :: d.loose.drop (k + 1) := List.drop_eq_getElem_cons hlt
      generalize d.loose[k] = c at *
      have hcw : ∀ j, j < 5 → wr.cell? ⟨g, k * 5 + j, none⟩ = c.cells[j]? := fun j hj => by
        rw [World.cell?_of_block (w := W) (HM.out.block g (by have := HSZ.out; omega) (fun h => by omega))]
        exact gc j hj
      have KC : Hid (c.cells = [.int .i64 c.kind, .string ⟨c.name.toArray⟩, .string ⟨c.to.toArray⟩, .string ⟨c.s.toArray⟩, .int .i64 c.n]) := rfl
      have k0 : wr.cell? ⟨g, k * 5, none⟩ = some (.int .i64 c.kind) := hcw 0 (by omega)
      have k1 : wr.cell? ⟨g, k * 5 + 1, none⟩ = some (.string ⟨c.name.toArray⟩) := hcw 1 (by omega)
      have k2 : wr.cell? ⟨g, k * 5 + 2, none⟩ = some (.string ⟨c.to.toArray⟩) := hcw 2 (by omega)
      have k3 : wr.cell? ⟨g, k * 5 + 3, none⟩ = some (.string ⟨c.s.toArray⟩) := hcw 3 (by omega)
      have k4 : wr.cell? ⟨g, k * 5 + 4, none⟩ = some (.int .i64 c.n) := hcw 4 (by omega)
      have gw : g < wr.heap.size := by have := HM.out.size; have := HSZ.out; omega
      have bw : bk < wr.heap.size := by have := HM.out.size; have := HSZ.out; omega
      have tw := lt_heap HT.out
      have kb : wr.cell? ⟨bk, 0, none⟩ = some (.int .i64 keep) := by
        rw [World.cell?_of_block (w := W) (HM.out.block bk (by have := HSZ.out; omega) (fun h => by have := HNB.out; omega))]
        exact cell_heap HE1.out 0
      have kt : wr.cell? ⟨bt, 0, none⟩ = some (.int .i64 tk) := cell_heap HT.out 0
      have kf : wr.frozen? ⟨bt, 0, none⟩ = false := frozen_heap HT.out 0
      have hstep : surv keep tk k (c :: d.loose.drop (k + 1)) = _ := surv.eq_2 keep tk k c (d.loose.drop (k + 1))
      have hbit := and_one_i64 (keep / 2 ^ k)
      rw [hdrop] at HP
      clear hcw gc hget hdrop HC
      by_cases hkp : kept keep k = true
      · rw [if_pos hkp] at hstep
        have hkp2 : k < 62 ∧ keep / 2 ^ k % 2 = 1 := by simpa [kept] using hkp
        obtain ⟨hk62, hb1⟩ := hkp2
        rw [hb1] at hbit
        obtain ⟨fn, tmps, assign, body, hy, hR⟩ := HY.out pre c ⟨_, (by rw [← HP.out, hstep])⟩ (wr.alloc (.cells #[.int .i64 c.kind, .string ⟨c.name.toArray⟩, .string ⟨c.to.toArray⟩, .string ⟨c.s.toArray⟩, .int .i64 c.n] 149)) (HJ.out _ _ _ HJ1.out ((Mod.refl _ _).alloc _))
        rw [hstep] at HP
        have HR := Lib.hid hR
        rw [KC.out] at hy
        have HKP := Lib.hid hkp
        clear hkp hR hstep hb1
        have HSV : Hid (pre ++ [c] ++ surv keep tk (k + 1) (d.loose.drop (k + 1)) = surv keep torn 0 d.loose) := by
          show _ = _
          rw [← HP.out, List.append_assoc, List.singleton_append]
        gi_wp2
        refine ⟨fun h => (by cases h), HR.out.mono ?_⟩
        rintro e W3 ⟨rfl, hJ3, hm3⟩
        have HJ3 := Lib.hid hJ3; clear hJ3
        have HM3 := Lib.hid hm3; clear hm3
        gi_wp2
        go_roundw
        case rel =>
          have hma : Mod (fun k => k = m.bs ∨ w.heap.size ≤ k) wr W3 := ((Mod.alloc (Mod.refl _ wr) _).mono (noB_sub _ _)).trans HM3.out (fun _ _ h => h)
          refine ⟨k + 1, pre ++ [c], tk, by omega, by go_num, HJ3, HSV, ?_, HM.out.trans hma (fun _ _ h => .inr h)⟩
          exact (hma.block bt tw (fun h => by have := HNB.out; omega)).trans HT.out
        case measure => simp [intOf]; omega
      · rw [if_neg hkp] at hstep
        have htest : k < 62 → keep / 2 ^ k % 2 = 0 := fun h => by
          have : ¬ (keep / 2 ^ k % 2 = 1) := fun h2 => hkp (by simp [kept, h, h2])
          omega
        by_cases hz : min (max tk 0) c.s.length = 0
        · rw [if_pos hz] at hstep
          rw [hstep] at HP
          clear hstep hkp
          have hz' : (min (max tk 0) (c.s.length : Int) == 0) = true := by simpa using hz
          have HZ := Lib.hid hz; clear hz
          by_cases hk62 : k < 62
          · rw [htest hk62] at hbit
            clear htest
            gi_wp2
            go_roundw
            case rel =>
              have hma : Mod (fun k => k = bt) wr ((wr.setCell ⟨bt, 0, none⟩ (.int .i64 0)).alloc (.cells #[.int .i64 c.kind, .string ⟨c.name.toArray⟩, .string ⟨c.to.toArray⟩, .string ⟨c.s.toArray⟩, .int .i64 c.n] 149)) := Mod.alloc (Mod.setCell (Mod.refl (fun k => k = bt) wr) _ _ (fun _ => rfl)) _
              refine ⟨k + 1, pre, 0, by omega, by go_num, HJ.out _ _ _ HJ1.out hma, HP, ?_, HM.out.trans hma (fun _ _ h => .inl h)⟩
              show _ = _
              rw [heap_alloc_lt _ _ _ (by rw [size_setCell]; exact tw)]
              simp only [heap_setCell_same, HT.out, Option.map_some, setAt_cells, List.setIfInBounds_toArray, List.set_cons_zero]
            case measure => simp [intOf]; omega
          · clear htest hbit
            gi_wp2
            go_roundw
            case rel =>
              have hma : Mod (fun k => k = bt) wr ((wr.setCell ⟨bt, 0, none⟩ (.int .i64 0)).alloc (.cells #[.int .i64 c.kind, .string ⟨c.name.toArray⟩, .string ⟨c.to.toArray⟩, .string ⟨c.s.toArray⟩, .int .i64 c.n] 149)) := Mod.alloc (Mod.setCell (Mod.refl (fun k => k = bt) wr) _ _ (fun _ => rfl)) _
              refine ⟨k + 1, pre, 0, by omega, by go_num, HJ.out _ _ _ HJ1.out hma, HP, ?_, HM.out.trans hma (fun _ _ h => .inl h)⟩
              show _ = _
              rw [heap_alloc_lt _ _ _ (by rw [size_setCell]; exact tw)]
              simp only [heap_setCell_same, HT.out, Option.map_some, setAt_cells, List.setIfInBounds_toArray, List.set_cons_zero]
            case measure => simp [intOf]; omega
        · rw [if_neg hz] at hstep
          obtain ⟨q, hq⟩ : ∃ q : Nat, min (max tk 0) (c.s.length : Int) = q := Int.eq_ofNat_of_zero_le (by omega)
          have hq1 : q ≤ c.s.length := by omega
          have hq0 : ((q : Int) == 0) = false := by rw [← hq]; simpa using hz
          rw [hq, Int.toNat_natCast] at hstep
          rw [hstep] at HP
          clear hstep hkp hz
          have hm1 : Mod (fun k => k = bt) wr ((wr.setCell ⟨bt, 0, none⟩ (.int .i64 0)).alloc (.cells #[.int .i64 c.kind, .string ⟨c.name.toArray⟩, .string ⟨c.to.toArray⟩, .string ⟨(c.s.take q).toArray⟩, .int .i64 c.n] 149)) :=
            Mod.alloc (Mod.setCell (Mod.refl (fun k => k = bt) wr) _ _ (fun _ => rfl)) _
          obtain ⟨fn, tmps, assign, body, hy, hR⟩ := HY.out pre { c with s := c.s.take q } ⟨_, HP.out.symm⟩ _ (HJ.out _ _ _ HJ1.out hm1)
          have HM1 := Lib.hid hm1; clear hm1
          have HR := Lib.hid hR; clear hR
          have KC' : Hid (({ c with s := c.s.take q } : Chg).cells = [.int .i64 c.kind, .string ⟨c.name.toArray⟩, .string ⟨c.to.toArray⟩, .string ⟨(c.s.take q).toArray⟩, .int .i64 c.n]) := rfl
          rw [KC'.out] at hy
          have HQ := Lib.hid hq
          have HSV : Hid (pre ++ [{ c with s := c.s.take q }] ++ surv keep 0 (k + 1) (d.loose.drop (k + 1)) = surv keep torn 0 d.loose) := by
            show _ = _
            rw [← HP.out, List.append_assoc, List.singleton_append]
          by_cases hk62 : k < 62
          · rw [htest hk62] at hbit
            clear htest
            gi_wp2
            refine ⟨fun h => (by cases h), HR.out.mono ?_⟩
            rintro e W3 ⟨rfl, hJ3, hm3⟩
            have HJ3 := Lib.hid hJ3; clear hJ3
            have HM3 := Lib.hid hm3; clear hm3
            gi_wp2
            go_roundw
            case rel =>
              have hma : Mod (fun k => k = bt ∨ k = m.bs ∨ w.heap.size ≤ k) wr W3 := (HM1.out.mono (fun _ _ h => .inl h)).trans HM3.out (fun _ _ h => .inr h)
              refine ⟨k + 1, pre ++ [{ c with s := c.s.take q }], 0, by omega, by go_num, HJ3, HSV, ?_, HM.out.trans hma (fun _ _ h => h)⟩
              show _ = _
              rw [HM3.out.block bt (by rw [size_alloc, size_setCell]; omega) (fun h => by have := HNB.out; omega), heap_alloc_lt _ _ _ (by rw [size_setCell]; exact tw)]
              simp only [heap_setCell_same, HT.out, Option.map_some, setAt_cells, List.setIfInBounds_toArray, List.set_cons_zero]
            case measure => simp [intOf]; omega
          · clear htest hbit
            gi_wp2
            refine ⟨fun h => (by cases h), HR.out.mono ?_⟩
            rintro e W3 ⟨rfl, hJ3, hm3⟩
            have HJ3 := Lib.hid hJ3; clear hJ3
            have HM3 := Lib.hid hm3; clear hm3
            gi_wp2
            go_roundw
            case rel =>
              have hma : Mod (fun k => k = bt ∨ k = m.bs ∨ w.heap.size ≤ k) wr W3 := (HM1.out.mono (fun _ _ h => .inl h)).trans HM3.out (fun _ _ h => .inr h)
              refine ⟨k + 1, pre ++ [{ c with s := c.s.take q }], 0, by omega, by go_num, HJ3, HSV, ?_, HM.out.trans hma (fun _ _ h => h)⟩
              show _ = _
              rw [HM3.out.block bt (by rw [size_alloc, size_setCell]; omega) (fun h => by have := HNB.out; omega), heap_alloc_lt _ _ _ (by rw [size_setCell]; exact tw)]
              simp only [heap_setCell_same, HT.out, Option.map_some, setAt_cells, List.setIfInBounds_toArray, List.set_cons_zero]
            case measure => simp [intOf]; omega
    · have hk' : k = d.loose.length := by omega
      subst hk'
      have hP := HP.out
      rw [surv_end _ _ _ _ (Nat.le_refl _), List.append_nil] at hP
      have HP2 := Lib.hid hP; clear hP
      gi_wp2
      go_end0
      exact ⟨⟨_, rfl⟩, HP2.out ▸ HJ1.out⟩

end Go.Proofs.Ytgofngilfdnakaa
