/-
  This text proves what cupelref03.Disk's Crash does when nothing is torn: for few files and changes.
-/
import Derived.Test.YtgofngilfdnakaaRefG
namespace Go.Proofs.Ytgofngilfdnakaa
open Go Go.RowKit
attribute [local go_sem] over_cell over_frozen lt_over le_over noB loudUpon ByteArray.mk_append_mk ByteArray.extract_mk

/-- The changes that are kept, nothing torn. -/
def keptL (keep : Int) : Nat → List Chg → List Chg
  | _, [] => []
  | i, c :: r => if kept keep i then c :: keptL keep (i + 1) r else keptL keep (i + 1) r
theorem keptL_take (keep : Int) : ∀ (L : List Chg) (i k : Nat) (hk : k < L.length), keptL keep i (L.take (k + 1)) = keptL keep i (L.take k) ++ if kept keep (i + k) then [L[k]] else []
  | [], _, k, hk => by simp at hk
  | c :: L, i, 0, _ => by
    simp only [List.take_succ_cons, List.take_zero, keptL, Nat.add_zero, List.getElem_cons_zero]
    cases kept keep i <;> rfl
  | c :: L, i, k + 1, hk => by
    have ih := keptL_take keep L (i + 1) k (by simpa using hk)
    rw [List.take_succ_cons, List.take_succ_cons]
    simp only [keptL, List.getElem_cons_succ]
    rw [ih, show i + 1 + k = i + (k + 1) by omega]
    cases kept keep i <;> simp
theorem keptL_sub (keep : Int) : ∀ (L : List Chg) (i : Nat), (keptL keep i L).Sublist L
  | [], _ => List.Sublist.refl _
  | c :: L, i => by
    unfold keptL
    split
    · exact (keptL_sub keep L (i + 1)).cons_cons c
    · exact (keptL_sub keep L (i + 1)).cons c
theorem shr_step (x : Int) (k : Nat) : x / 2 ^ k / 2 = x / 2 ^ (k + 1) := by
  rw [Int.ediv_ediv_of_nonneg (Int.pow_nonneg (by omega)), Int.pow_succ]
theorem shr_bounds {keep : Int} (h0 : -9223372036854775808 ≤ keep) (h1 : keep ≤ 9223372036854775807) (k : Nat) : -9223372036854775808 ≤ keep / 2 ^ k ∧ keep / 2 ^ k ≤ 9223372036854775807 := by
  have h2 : (0 : Int) < 2 ^ k := Int.pow_pos (by omega)
  generalize (2 : Int) ^ k = d at *
  by_cases h3 : 0 ≤ keep
  · have h4 := Int.ediv_le_self d h3
    have h5 := Int.ediv_nonneg h3 (Int.le_of_lt h2)
    omega
  · have h4 : keep ≤ keep / d := Int.le_ediv_of_mul_le h2 (by
      have h5 : keep * d ≤ keep * 1 := Int.mul_le_mul_of_nonpos_left (by omega) (by omega)
      omega)
    have h6 : keep / d < 0 := Int.ediv_neg_of_neg_of_pos (by omega) h2
    omega
theorem kept_split (keep : Int) (k : Nat) : kept keep k = (decide (k < 62) && decide (keep / 2 ^ k % 2 = 1)) := rfl
theorem and_one_r (x : Int) : bits .and .i64 x 1 = x % 2 := by
  show IntKind.i64.wrap ((BitVec.ofInt 64 x &&& BitVec.ofInt 64 1).toNat : Int) = _
  have h1 : (BitVec.ofInt 64 1).toNat = 1 := by decide
  rw [BitVec.toNat_and, h1, Nat.and_one_is_mod, BitVec.toNat_ofInt]
  have h2 : (((x % ((2 ^ 64 : Nat) : Int)).toNat % 2 : Nat) : Int) = x % 2 := by omega
  rw [h2]
  have : x % 2 = 0 ∨ x % 2 = 1 := by omega
  rcases this with h | h <;> rw [h] <;> decide

set_option maxRecDepth 100000 in
set_option maxHeartbeats 6400000 in
theorem rcrash_calls [Away] (sv lv fv : Value) (F : Files) (L : List Chg) (keep room ch : Int) (w : World) (hF : FR w sv F) (hL : CR w lv L) (hS : Sorted F) (hok : ∀ c ∈ L, OkR c) (hn : F.length + L.length ≤ 500) (hz : F.size + 60 * L.length ≤ 1000000) (hfv : ∃ a n c, fv = .slice a n c)
    (hk0 : -9223372036854775808 ≤ keep) (hk1 : keep ≤ 9223372036854775807) :
    Calls Try.prog 64 #[.agg #[sv, lv, .int .i64 room, fv, .int .i64 ch, .bool false], .int .i64 keep, .int .i64 0] w fun e w' => ∃ v', e = .returned (.agg #[v', .slice none 0 0, .int .i64 room, fv, .int .i64 ch, .bool true]) ∧ FR w' v' ((keptL keep 0 L).foldl Files.act F) ∧ Mod NoB w w' := by
  have HF0 := Lib.hid hF
  have HL0 := Lib.hid hL
  have HS := Lib.hid hS
  have HOK := Lib.hid hok
  obtain ⟨a1, c1, rfl, -, -⟩ := hF.cells
  obtain ⟨a2, c2, rfl, hc2, hcell⟩ := hL.cells
  obtain ⟨a3, n3, c3, rfl⟩ := hfv
  have HC := Lib.hid hcell
  clear hF hL hS hok hcell
  obtain ⟨W, hW⟩ : ∃ W, (w.alloc (.cells #[.slice a1 F.length c1, .slice a2 L.length c2, .int .i64 room, .slice a3 n3 c3, .int .i64 ch, .bool false] 99)).alloc (.cells #[.slice none 0 0, .slice none 0 0, .int .i64 0, .slice none 0 0, .int .i64 0, .bool false] 99) = W := ⟨_, rfl⟩
  have hm0 : Mod NoB w W := by rw [← hW]; exact ((Mod.refl _ _).alloc _).alloc _
  have hP : W.heap[w.heap.size]? = some (.cells #[.slice a1 F.length c1, .slice a2 L.length c2, .int .i64 room, .slice a3 n3 c3, .int .i64 ch, .bool false] 99 (0, 0)) := by
    rw [← hW, heap_alloc_lt _ _ _ (by rw [size_alloc]; omega)]
    exact heap_alloc_new _ _
  have hR : W.heap[w.heap.size + 1]? = some (.cells #[.slice none 0 0, .slice none 0 0, .int .i64 0, .slice none 0 0, .int .i64 0, .bool false] 99 (0, 0)) := by
    rw [← hW]
    exact heap_alloc_at' _ _ _ (by rw [size_alloc])
  obtain ⟨db, d0, d1, d2, d3, d4, d5, df⟩ := Disk6.facts hP
  have HM0 := Lib.hid hm0
  have HP := Lib.hid hP
  have HR := Lib.hid hR
  clear hm0 hP hR
  go_enter Try.func64, Try.ntmps64
  go_wp2_with fail
  have hPw : w.heap.size ≤ w.heap.size ∧ w.heap.size < w.heap.size + 1 := by omega
  generalize hQe : w.heap.size + 1 = R at *
  obtain ⟨P, hPe⟩ : ∃ P, w.heap.size = P := ⟨_, rfl⟩
  rw [hPe] at hPw
  rw [hPe] at d0 d1 d2 d3 d4 d5 df db HP ⊢
  have hp1 : w.heap.size ≤ P := by omega
  have hr1 : P < R := hPw.2
  clear hQe hPe hPw hW
  have HINI : Hid (∃ v, FR W v ((keptL keep 0 (L.take 0)).foldl Files.act F) ∧ W.heap[P]? = some (.cells #[v, .slice a2 L.length c2, .int .i64 room, .slice a3 n3 c3, .int .i64 ch, .bool false] 99 (0, 0)) ∧ Mod (fun k => k = P) W W) := ⟨_, HF0.out.mod HM0.out, HP.out, Mod.refl _ _⟩
  clear d0 d1 d2 d3 d4 d5 df
  go_loopw [2, 7, 8] (fun tn bs i wr => ∃ k : Nat, k ≤ L.length ∧ tn = .int .i64 0 ∧ bs = .int .i64 (keep / 2 ^ k) ∧ i = .int .i64 k ∧ Hid (∃ v, FR wr v ((keptL keep 0 (L.take k)).foldl Files.act F) ∧ wr.heap[P]? = some (.cells #[v, .slice a2 L.length c2, .int .i64 room, .slice a3 n3 c3, .int .i64 ch, .bool false] 99 (0, 0)) ∧ Mod (fun k => k = P) W wr)) (fun _ _ i _ => L.length - (intOf i).toNat)
  case atStart => exact ⟨0, by omega, rfl, by simp, rfl, HINI⟩
  case round =>
    obtain ⟨k, hk, rfl, rfl, rfl, HRR⟩ := hrel
    obtain ⟨v, hfv, hPv, hMv⟩ := HRR.out
    obtain ⟨av, cv, rfl, -, -⟩ := hfv.cells
    obtain ⟨xb, x0, x1, x2, x3, x4, x5, xf⟩ := Disk6.facts hPv
    have hmw : Mod NoB w wr := HM0.out.trans hMv (fun q hq (e : q = P) => by omega)
    by_cases hlt : k < L.length
    · obtain ⟨q, rfl, hq, e0, e1, e2, e3, e4⟩ := HC.out k hlt
      rw [← World.cell?_of_block (w := w) (hmw.block q hq id)] at e0 e1 e2 e3 e4
      have hqw := Nat.lt_of_lt_of_le hq hmw.size
      have hcok := HOK.out _ (List.getElem_mem hlt)
      have hpre : ∀ c ∈ keptL keep 0 (L.take k), OkR c := fun c hc => HOK.out c (List.mem_of_mem_take ((keptL_sub keep _ 0).subset hc))
      have hbd := acts_bounds (F := F) hpre
      have hl := (keptL_sub keep (L.take k) 0).length_le
      have hl2 := List.length_take_le k L
      have hstep := keptL_take keep L 0 k hlt
      rw [Nat.zero_add] at hstep
      have hsh := shr_step keep k
      have hand := and_one_r (keep / 2 ^ k)
      have hb0 := shr_bounds hk0 hk1 k
      by_cases hkp : k < 62 ∧ keep / 2 ^ k % 2 = 1
      · obtain ⟨hk62, hkb⟩ := hkp
        have hyk : kept keep k = true := by
          rw [kept_split, Bool.and_eq_true]
          exact ⟨by simpa using hk62, by simpa using hkb⟩
        rw [hyk] at hstep
        simp only [if_true] at hstep
        have hfin : (keptL keep 0 (L.take (k + 1))).foldl Files.act F = rDo ((keptL keep 0 (L.take k)).foldl Files.act F) L[k] := by
          rw [hstep, List.foldl_append, rDo_ok (acts_sorted _ _ HS.out) hcok]
          rfl
        have HSH := Lib.hid hsh
        have HFIN := Lib.hid hfin
        have HV := Lib.hid hfv
        have HPV := Lib.hid hPv
        have HMV := Lib.hid hMv
        clear hsh hstep hyk hfin hpre hfv hPv hMv hmw HRR
        generalize keep / 2 ^ k = bk at *
        generalize (keptL keep 0 (L.take k)).foldl Files.act F = G at *
        generalize L[k] = c at *
        obtain ⟨kd, nm, tt, ss, nn⟩ := c
        simp only at e0 e1 e2 e3 e4
        have hs60 := hcok.s
        have hk4 := hcok.kind
        simp only at hs60 hk4
        have hma : Mod NoB wr (wr.alloc (.cells #[.int .i64 kd, .string ⟨nm.toArray⟩, .string ⟨tt.toArray⟩, .string ⟨ss.toArray⟩, .int .i64 nn] 178)) := (Mod.refl _ _).alloc _
        have HDO := Lib.hid (rdo_calls _ G kd nm tt ss nn _ (HV.out.mod hma) (by omega) (by omega) (by omega) hk4 hcok.four)
        have HMA := Lib.hid hma
        have h1 : (k : Int) < 62 := by omega
        have h2 : (bk % 2 == 1) = true := by simpa using hkb
        clear hbd hl hl2 hcok hkb hma
        go_wp2_with fail
        refine HDO.out.mono ?_
        rintro e W2 ⟨v2, rfl, hf2, hm2⟩
        obtain ⟨a5, c5, rfl, -, -⟩ := hf2.cells
        have hP2 := ((HMA.out.trans hm2 (fun _ _ h => h)).block _ xb id).trans HPV.out
        obtain ⟨yb, y0, y1, y2, y3, y4, y5, yf⟩ := Disk6.facts hP2
        have HNX : Hid (∃ v, FR (W2.setCell ⟨P, 0, none⟩ (.slice a5 (rDo G ⟨kd, nm, tt, ss, nn⟩).length c5)) v ((keptL keep 0 (L.take (k + 1))).foldl Files.act F) ∧ (W2.setCell ⟨P, 0, none⟩ (.slice a5 (rDo G ⟨kd, nm, tt, ss, nn⟩).length c5)).heap[P]? = some (.cells #[v, .slice (some ⟨q, 0, none⟩) L.length c2, .int .i64 room, .slice a3 n3 c3, .int .i64 ch, .bool false] 99 (0, 0)) ∧ Mod (fun k => k = P) W (W2.setCell ⟨P, 0, none⟩ (.slice a5 (rDo G ⟨kd, nm, tt, ss, nn⟩).length c5))) := by
          refine ⟨.slice a5 (rDo G ⟨kd, nm, tt, ss, nn⟩).length c5, ?_, ?_, ?_⟩
          · rw [HFIN.out]
            exact hf2.upd (Mod.setCell (F := fun k => k = P) (Mod.refl _ _) _ _ (fun _ => rfl)) (fun q hq (e : q = P) => absurd (row_type hf2.1 hq (e ▸ hP2)) (by decide))
          · rw [heap_setCell_same, hP2]
            rfl
          · exact ((HMV.out.trans HMA.out (fun _ _ h => h.elim)).trans hm2 (fun _ _ h => h.elim)).setCell _ _ (fun _ => rfl)
        clear hf2 hm2 hP2 HDO HMA HV HPV HMV x0 x1 x2 x3 x4 x5 xf xb
        go_wp2_with fail
        go_roundw
        case rel => exact ⟨k + 1, by omega, rfl, by rw [HSH.out], by go_num, HNX⟩
        case measure => simp [intOf]; omega
      · have hnk : kept keep k = false := by
          rw [kept_split, Bool.and_eq_false_iff]
          by_cases h1 : k < 62
          · exact .inr (by simpa using fun h => hkp ⟨h1, h⟩)
          · exact .inl (by simpa using h1)
        rw [hnk] at hstep
        simp only [Bool.false_eq_true, if_false, List.append_nil] at hstep
        have HSH := Lib.hid hsh
        have HSTEP := Lib.hid hstep
        have HV := Lib.hid hfv
        have HPV := Lib.hid hPv
        have HMV := Lib.hid hMv
        clear hsh hstep hnk hcok hpre hbd hl hl2 hfv hPv hMv hmw HRR
        generalize keep / 2 ^ k = bk at *
        generalize L[k] = c at *
        obtain ⟨kd, nm, tt, ss, nn⟩ := c
        simp only at e0 e1 e2 e3 e4
        have hl0 : ¬ (0 : Int) > (ss.length : Int) := by omega
        by_cases h1 : (k : Int) < 62
        · have h2 : (bk % 2 == 1) = false := by
            have : ¬ bk % 2 = 1 := fun h => hkp ⟨by omega, h⟩
            simpa using this
          clear hkp
          go_wp2_with fail
          have HNX : Hid (∃ v, FR (wr.alloc (.cells #[.int .i64 kd, .string ⟨nm.toArray⟩, .string ⟨tt.toArray⟩, .string ⟨ss.toArray⟩, .int .i64 nn] 178)) v ((keptL keep 0 (L.take (k + 1))).foldl Files.act F) ∧ (wr.alloc (.cells #[.int .i64 kd, .string ⟨nm.toArray⟩, .string ⟨tt.toArray⟩, .string ⟨ss.toArray⟩, .int .i64 nn] 178)).heap[P]? = some (.cells #[v, .slice (some ⟨q, 0, none⟩) L.length c2, .int .i64 room, .slice a3 n3 c3, .int .i64 ch, .bool false] 99 (0, 0)) ∧ Mod (fun k => k = P) W (wr.alloc (.cells #[.int .i64 kd, .string ⟨nm.toArray⟩, .string ⟨tt.toArray⟩, .string ⟨ss.toArray⟩, .int .i64 nn] 178))) :=
            ⟨_, by rw [HSTEP.out]; exact HV.out.mod ((Mod.refl _ _).alloc _), (heap_alloc_lt _ _ _ (lt_heap HPV.out)).trans HPV.out, HMV.out.alloc _⟩
          go_roundw
          case rel => exact ⟨k + 1, by omega, rfl, by rw [HSH.out], by go_num, HNX⟩
          case measure => simp [intOf]; omega
        · clear hkp
          go_wp2_with fail
          have HNX : Hid (∃ v, FR (wr.alloc (.cells #[.int .i64 kd, .string ⟨nm.toArray⟩, .string ⟨tt.toArray⟩, .string ⟨ss.toArray⟩, .int .i64 nn] 178)) v ((keptL keep 0 (L.take (k + 1))).foldl Files.act F) ∧ (wr.alloc (.cells #[.int .i64 kd, .string ⟨nm.toArray⟩, .string ⟨tt.toArray⟩, .string ⟨ss.toArray⟩, .int .i64 nn] 178)).heap[P]? = some (.cells #[v, .slice (some ⟨q, 0, none⟩) L.length c2, .int .i64 room, .slice a3 n3 c3, .int .i64 ch, .bool false] 99 (0, 0)) ∧ Mod (fun k => k = P) W (wr.alloc (.cells #[.int .i64 kd, .string ⟨nm.toArray⟩, .string ⟨tt.toArray⟩, .string ⟨ss.toArray⟩, .int .i64 nn] 178))) :=
            ⟨_, by rw [HSTEP.out]; exact HV.out.mod ((Mod.refl _ _).alloc _), (heap_alloc_lt _ _ _ (lt_heap HPV.out)).trans HPV.out, HMV.out.alloc _⟩
          go_roundw
          case rel => exact ⟨k + 1, by omega, rfl, by rw [HSH.out], by go_num, HNX⟩
          case measure => simp [intOf]; omega
    · have hke : k = L.length := by omega
      subst hke
      have hRv := (hMv.block R (lt_heap HR.out) (by omega)).trans HR.out
      obtain ⟨zb, z0, z1, z2, z3, z4, z5, zf⟩ := Disk6.facts hRv
      rw [List.take_length] at hfv hPv x0
      have HV := Lib.hid hfv
      have HPV := Lib.hid hPv
      have HRV := Lib.hid hRv
      have HMW := Lib.hid hmw
      clear hfv hPv hRv hmw HRR hMv
      obtain ⟨G, hG⟩ : ∃ G, (keptL keep 0 L).foldl Files.act F = G := ⟨_, rfl⟩
      rw [hG] at HV HPV x0
      have HG := Lib.hid hG
      clear hG
      go_wp2_with fail
      refine at_world (P := bodyPost _ _ _ _ _) (fun X => X.heap[R]? = some (.cells #[.slice av G.length cv, .slice none 0 0, .int .i64 room, .slice a3 n3 c3, .int .i64 ch, .bool true] 99 (0, 0)) ∧ Mod (fun k => k = P ∨ k = R) wr X) ?_ ?_
      · refine ⟨?_, ?_⟩
        · simp only [heap_setCell, if_true, show ¬ (R = P) by omega, if_false, HRV.out, Option.map_some, setAt_cells, List.setIfInBounds_toArray, List.set_cons_zero, List.set_cons_succ]
        · repeat (first | with_reducible exact Mod.refl _ _ | ((with_reducible refine Mod.setCell ?_ _ _ ?_); rotate_left; (intro _; simp)))
      · rintro X ⟨hRX, hMX⟩
        obtain ⟨tb, t0, t1, t2, t3, t4, t5, tf⟩ := Disk6.facts hRX
        refine bodyPost_ret (v := .agg #[.slice av G.length cv, .slice none 0 0, .int .i64 room, .slice a3 n3 c3, .int .i64 ch, .bool true]) (by simp [results, Try.f64, go_sem, t0, t1, t2, t3, t4, t5]) rfl ⟨_, rfl, ?_, ?_⟩
        · rw [HG.out]
          refine HV.out.upd hMX (fun q hq e => ?_)
          rcases e with e | e
          · rw [e] at hq; exact absurd (row_type HV.out.1 hq HPV.out) (by decide)
          · rw [e] at hq; exact absurd (row_type HV.out.1 hq HRV.out) (by decide)
        · exact HMW.out.trans hMX (fun q hq e => by omega)

end Go.Proofs.Ytgofngilfdnakaa
