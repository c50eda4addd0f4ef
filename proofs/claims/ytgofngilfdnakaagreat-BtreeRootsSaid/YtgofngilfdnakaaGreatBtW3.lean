/-
  This text proves what the package page's Encode does with pages that may be: their bytes.
-/
import Derived.Test.YtgofngilfdnakaaGreatBtW2
namespace Go.Proofs.YtgofngilfdnakaaGreat
open Go Go.RowKit
attribute [local go_sem] over_cell over_frozen lt_over le_over noB loudUpon ByteArray.mk_append_mk ByteArray.extract_mk

theorem Page4.facts {w : World} {D : Nat} {x0 x1 x2 x3 : Value} (h : w.heap[D]? = some (.cells #[x0, x1, x2, x3] 130 (0, 0))) : D < w.heap.size ∧ w.cell? ⟨D, 0, none⟩ = some x0 ∧ w.cell? ⟨D, 1, none⟩ = some x1 ∧ w.cell? ⟨D, 2, none⟩ = some x2 ∧ w.cell? ⟨D, 3, none⟩ = some x3 ∧ ∀ i, w.frozen? ⟨D, i, none⟩ = false :=
  ⟨lt_heap h, cell_heap h 0, cell_heap h 1, cell_heap h 2, cell_heap h 3, frozen_heap h⟩
theorem flat_take {α : Type} (f : α → Str) (l : List α) (k : Nat) (h : k < l.length) : (l.take (k + 1)).flatMap f = (l.take k).flatMap f ++ f l[k] := by
  rw [List.take_succ_eq_append_getElem h, List.flatMap_append]
  simp
/-- Where the bytes stand. -/
structure EncAt (W : World) (b base D : Nat) (out : Str) (w : World) : Prop where
  wr : WrAt w b base out
  mod : Mod (fun k => base ≤ k) W w

set_option maxRecDepth 100000 in
set_option maxHeartbeats 3200000 in
theorem Encode_calls (p : Pg) (kv vv cv : Value) (w : World) (h : PgIn w kv vv cv p) (hp : pgOk p) :
    Calls Tryz.prog 83 #[pageV p kv vv cv] w fun e w' => e = .returned (.tuple #[.string ⟨(encP p).toArray⟩, .int .i64 0]) ∧ Mod NoB w w' := by
  have HC := Lib.hid (fun X (hX : Mod NoB w X) => Check_calls p kv vv cv X (h.mod hX) hp)
  have hle := encP_le hp
  obtain ⟨h1, h2, h3, h4, h5⟩ := hp
  have hvl : p.vals.length ≤ 8 := by
    cases hl : p.leaf with
    | true => have := (h4 hl).2.1; omega
    | false => rw [(h5 hl).1]; simp
  have hcl : p.kids.length ≤ 9 := by
    cases hl : p.leaf with
    | true => rw [(h4 hl).1]; simp
    | false => have := (h5 hl).2.2.1; omega
  have HK : Hid (∀ s ∈ p.keys, s.length ≤ 64) := fun s hs => (h2 s hs).2
  have HV : Hid (∀ s ∈ p.vals, s.length ≤ 8192) := fun s hs => by
    cases hl : p.leaf with
    | true => exact (h4 hl).2.2 s hs
    | false => rw [(h5 hl).1] at hs; cases hs
  have HN : Hid (∀ n ∈ p.kids, n ≤ 2147483647) := fun n hn => by
    cases hl : p.leaf with
    | true => rw [(h4 hl).1] at hn; cases hn
    | false => exact (h5 hl).2.2.2 n hn
  have HH := Lib.hid h
  obtain ⟨hk, hv, hc⟩ := h
  obtain ⟨ka, kc, rfl, hkc, _, hkcell⟩ := hk
  obtain ⟨va, vc, rfl, hvc, _, hvcell⟩ := hv
  obtain ⟨ca, cc, rfl, hcc, _, hccell⟩ := hc
  have HKC := Lib.hid hkcell
  have HVC := Lib.hid hvcell
  have HCC := Lib.hid hccell
  have HENC : Hid (encP p = ((numLE (if p.leaf then 1 else 0) 1 ++ numLE p.keys.length 1) ++ p.keys.flatMap text) ++ p.vals.flatMap text ++ p.kids.flatMap (fun k => numLE k 4)) := by
    show _ = _
    unfold encP
    simp only [List.append_assoc]
  have HPOS : Hid (0 < (encP p).length) := by
    show 0 < (encP p).length
    unfold encP
    rw [List.length_append, numLE_length]
    omega
  clear hkcell hvcell hccell h1 h2 h4 h5
  simp only [List.length_map] at *
  obtain ⟨W, hW⟩ : ∃ W, w.alloc (.cells #[.bool p.leaf, .slice ka p.keys.length kc, .slice va p.vals.length vc, .slice ca p.kids.length cc] 130) = W := ⟨_, rfl⟩
  have hm0 : Mod NoB w W := by rw [← hW]; exact (Mod.refl _ _).alloc _
  have hP : W.heap[w.heap.size]? = some (.cells #[.bool p.leaf, .slice ka p.keys.length kc, .slice va p.vals.length vc, .slice ca p.kids.length cc] 130 (0, 0)) := by
    rw [← hW]
    exact heap_alloc_new _ _
  obtain ⟨db, d0, d1, d2, d3, df⟩ := Page4.facts hP
  have HM0 := Lib.hid hm0
  have HP := Lib.hid hP
  clear hm0 hP
  go_enter Tryz.func83, Tryz.ntmps83
  go_wp2_with fail
  clear hW
  refine (HC.out _ HM0.out).mono ?_
  rintro e W1 ⟨rfl, hm1⟩
  have hP1 := (hm1.block _ db id).trans HP.out
  have HM1 := Lib.hid (HM0.out.trans hm1 (fun _ _ h => h))
  clear hm1 HP d0 d1 d2 d3 df HC HM0
  obtain ⟨db1, d0, d1, d2, d3, df⟩ := Page4.facts hP1
  have HP1 := Lib.hid hP1
  clear hP1
  go_wp2_with fail
  refine (NewWriter_calls _).mono ?_
  rintro e W2 ⟨rfl, hm2, hw2⟩
  have hP2 := (hm2.block _ db1 id).trans HP1.out
  have hsz2 := hm2.size
  have HM2 := Lib.hid (HM1.out.trans hm2 (fun _ _ h => h))
  have HW2 := Lib.hid hw2
  generalize hb : W1.heap.size = b at *
  clear hb
  clear hm2 hw2 HP1 d0 d1 d2 d3 df HM1 W1
  generalize hD : w.heap.size = D at *
  have HWD := Lib.hid hD
  clear hD
  obtain ⟨db2, d0, d1, d2, d3, df⟩ := Page4.facts hP2
  have HP2 := Lib.hid hP2
  clear hP2
  have HB := Lib.hid (WBool_calls b b [] p.leaf W2 HW2.out (by simp) hsz2)
  rw [List.nil_append] at HB
  go_wp2_with fail
  refine HB.out.mono ?_
  rintro e W3 ⟨rfl, hm3, hw3⟩
  have hl1 := numLE_length (if p.leaf then 1 else 0) 1
  have HN1 := Lib.hid (WNumber_calls b b _ p.keys.length 1 W3 hw3 (.inl rfl) (by omega) (by rw [hl1]; omega) (Nat.le_trans hsz2 hm3.size))
  have hP3 := (hm3.block _ db2 (by omega)).trans HP2.out
  have HM3 := Lib.hid hm3
  clear hm3 hw3 HB d0 d1 d2 d3 df HP2 HW2
  obtain ⟨db3, d0, d1, d2, d3, df⟩ := Page4.facts hP3
  have HP3 := Lib.hid hP3
  clear hP3
  go_wp2_with fail
  refine HN1.out.mono ?_
  rintro e W4 ⟨rfl, hm4, hw4⟩
  have hl2 := numLE_length p.keys.length 1
  obtain ⟨pre, hpre⟩ : ∃ pre, numLE (if p.leaf then 1 else 0) 1 ++ numLE p.keys.length 1 = pre := ⟨_, rfl⟩
  have hprel : pre.length = 2 := by rw [← hpre, List.length_append, hl1, hl2]
  rw [hpre] at hw4 HENC
  have HM4 := Lib.hid (HM3.out.trans hm4 (fun _ _ h => h))
  have HW4 : Hid (EncAt W4 b b D pre W4) := ⟨hw4, Mod.refl _ _⟩
  have HP4 := Lib.hid ((hm4.block _ db3 (by omega)).trans HP3.out)
  clear hm4 hw4 HN1 d0 d1 d2 d3 df HP3 hl1 hl2 hpre HM3
  obtain ⟨db4, d0, d1, d2, d3, df⟩ := Page4.facts HP4.out
  have hsz4 : b ≤ W4.heap.size := Nat.le_trans hsz2 HM4.out.size
  go_wp2_with fail
  have H0 : Hid (EncAt W4 b b D (pre ++ (p.keys.take 0).flatMap text) W4) := ⟨by rw [List.take_zero, List.flatMap_nil, List.append_nil]; exact HW4.out.wr, HW4.out.mod⟩
  go_loopw [7, 31] (fun _ i wr => ∃ k : Nat, k ≤ p.keys.length ∧ i = .int .i64 k ∧ Hid (EncAt W4 b b D (pre ++ (p.keys.take k).flatMap text) wr)) (fun _ i _ => p.keys.length - (intOf i).toNat)
  case atStart => exact ⟨0, by omega, rfl, H0⟩
  case round =>
    obtain ⟨k, hk, rfl, HR⟩ := hrel
    by_cases hlt : k < p.keys.length
    · obtain ⟨bb, o, rfl, hbb, hc0⟩ := HKC.out k hlt
      rw [List.getElem_map] at hc0
      have hmw : Mod (fun q => b ≤ q) w wr := ((HM2.out.mono (noB_sub _ _)).trans HM4.out (fun _ _ h => h)).trans HR.out.mod (fun _ _ h => h)
      have hbs : D ≤ b := by omega
      rw [← World.cell?_of_block (w := w) (hmw.block bb (by rw [HWD.out]; exact hbb) (by omega))] at hc0
      have hlx := HK.out _ (List.getElem_mem hlt)
      have hbr : bb < wr.heap.size := Nat.lt_of_lt_of_le (by rw [HWD.out]; exact hbb) hmw.size
      have htl := texts_le 64 (p.keys.take k) (fun s hs => HK.out s (List.mem_of_mem_take hs))
      rw [List.length_take, Nat.min_eq_left hk] at htl
      have HT := Lib.hid (WText_calls b b _ p.keys[k] wr HR.out.wr (by rw [List.length_append]; omega) (Nat.le_trans hsz4 HR.out.mod.size))
      rw [List.append_assoc, ← flat_take text _ _ hlt] at HT
      generalize p.keys[k] = s at *
      clear hmw htl
      go_wp2_with fail
      refine HT.out.mono ?_
      rintro e w' ⟨rfl, hm, hw⟩
      have HR2 : Hid (EncAt W4 b b D (pre ++ (p.keys.take (k + 1)).flatMap text) w') := ⟨hw, HR.out.mod.trans hm (fun _ _ h => h)⟩
      clear hm hw HT
      go_wp2_with fail
      go_roundw
      case rel => exact ⟨k + 1, by omega, by go_num, HR2⟩
      case measure => simp [intOf]; omega
    · have hk' : k = p.keys.length := by omega
      subst hk'
      have hpre2 : (pre ++ p.keys.flatMap text).length ≤ 600 := by
        have := texts_le 64 p.keys HK.out
        rw [List.length_append]; omega
      have HR5 := HR.out
      rw [List.take_length] at HR5
      generalize pre ++ p.keys.flatMap text = pre2 at *
      have HW5 := Lib.hid HR5
      have hP5 := (HR5.mod.block D db4 (by omega)).trans HP4.out
      have hsz5 := HR5.mod.size
      generalize wr = W5 at *
      clear HR HR5 H0 HW4 d0 d1 d2 d3 df hk hlt
      obtain ⟨db5, d0, d1, d2, d3, df⟩ := Page4.facts hP5
      clear hP5 db5
      go_wp2_with fail
      have H0 : Hid (EncAt W4 b b D (pre2 ++ (p.vals.take 0).flatMap text) W5) := ⟨by rw [List.take_zero, List.flatMap_nil, List.append_nil]; exact HW5.out.wr, HW5.out.mod⟩
      go_loopw [9, 42] (fun _ i wr => ∃ k : Nat, k ≤ p.vals.length ∧ i = .int .i64 k ∧ Hid (EncAt W4 b b D (pre2 ++ (p.vals.take k).flatMap text) wr)) (fun _ i _ => p.vals.length - (intOf i).toNat)
      case atStart => exact ⟨0, by omega, rfl, H0⟩
      case round =>
        obtain ⟨k, hk, rfl, HR⟩ := hrel
        by_cases hlt : k < p.vals.length
        · obtain ⟨bb, o, rfl, hbb, hc0⟩ := HVC.out k hlt
          rw [List.getElem_map] at hc0
          have hmw : Mod (fun q => b ≤ q) w wr := ((HM2.out.mono (noB_sub _ _)).trans HM4.out (fun _ _ h => h)).trans HR.out.mod (fun _ _ h => h)
          have hbs : D ≤ b := by omega
          rw [← World.cell?_of_block (w := w) (hmw.block bb (by rw [HWD.out]; exact hbb) (by omega))] at hc0
          have hlx := HV.out _ (List.getElem_mem hlt)
          have hbr : bb < wr.heap.size := Nat.lt_of_lt_of_le (by rw [HWD.out]; exact hbb) hmw.size
          have htl := texts_le 8192 (p.vals.take k) (fun s hs => HV.out s (List.mem_of_mem_take hs))
          rw [List.length_take, Nat.min_eq_left hk] at htl
          have HT := Lib.hid (WText_calls b b _ p.vals[k] wr HR.out.wr (by rw [List.length_append]; omega) (Nat.le_trans hsz4 HR.out.mod.size))
          rw [List.append_assoc, ← flat_take text _ _ hlt] at HT
          generalize p.vals[k] = s at *
          clear hmw htl
          go_wp2_with fail
          refine HT.out.mono ?_
          rintro e w' ⟨rfl, hm, hw⟩
          have HR2 : Hid (EncAt W4 b b D (pre2 ++ (p.vals.take (k + 1)).flatMap text) w') := ⟨hw, HR.out.mod.trans hm (fun _ _ h => h)⟩
          clear hm hw HT
          go_wp2_with fail
          go_roundw
          case rel => exact ⟨k + 1, by omega, by go_num, HR2⟩
          case measure => simp [intOf]; omega
        · have hk' : k = p.vals.length := by omega
          subst hk'
          have hpre3 : (pre2 ++ p.vals.flatMap text).length ≤ 70000 := by
            have := texts_le 8192 p.vals HV.out
            rw [List.length_append]; omega
          have HR5 := HR.out
          rw [List.take_length] at HR5
          generalize pre2 ++ p.vals.flatMap text = pre3 at *
          have HW6 := Lib.hid HR5
          have hP5 := (HR5.mod.block D db4 (by omega)).trans HP4.out
          have hsz5 := HR5.mod.size
          generalize wr = W6 at *
          clear HR HR5 H0 HW5 d0 d1 d2 d3 df hk hlt
          obtain ⟨db5, d0, d1, d2, d3, df⟩ := Page4.facts hP5
          clear hP5 db5
          go_wp2_with fail
          have H0 : Hid (EncAt W4 b b D (pre3 ++ (p.kids.take 0).flatMap (fun k => numLE k 4)) W6) := ⟨by rw [List.take_zero, List.flatMap_nil, List.append_nil]; exact HW6.out.wr, HW6.out.mod⟩
          go_loopw [11, 53] (fun _ i wr => ∃ k : Nat, k ≤ p.kids.length ∧ i = .int .i64 k ∧ Hid (EncAt W4 b b D (pre3 ++ (p.kids.take k).flatMap (fun k => numLE k 4)) wr)) (fun _ i _ => p.kids.length - (intOf i).toNat)
          case atStart => exact ⟨0, by omega, rfl, H0⟩
          case round =>
            obtain ⟨k, hk, rfl, HR⟩ := hrel
            by_cases hlt : k < p.kids.length
            · obtain ⟨bb, o, rfl, hbb, hc0⟩ := HCC.out k hlt
              rw [List.getElem_map] at hc0
              have hmw : Mod (fun q => b ≤ q) w wr := ((HM2.out.mono (noB_sub _ _)).trans HM4.out (fun _ _ h => h)).trans HR.out.mod (fun _ _ h => h)
              have hbs : D ≤ b := by omega
              rw [← World.cell?_of_block (w := w) (hmw.block bb (by rw [HWD.out]; exact hbb) (by omega))] at hc0
              have hlx := HN.out _ (List.getElem_mem hlt)
              have hbr : bb < wr.heap.size := Nat.lt_of_lt_of_le (by rw [HWD.out]; exact hbb) hmw.size
              have htl := nums_len (p.kids.take k)
              rw [List.length_take, Nat.min_eq_left hk] at htl
              have HT := Lib.hid (WCount_calls b b _ p.kids[k] wr HR.out.wr (by omega) (by rw [List.length_append]; omega) (Nat.le_trans hsz4 HR.out.mod.size))
              rw [List.append_assoc, ← flat_take (fun k => numLE k 4) _ _ hlt] at HT
              generalize p.kids[k] = s at *
              clear hmw htl
              go_wp2_with fail
              refine HT.out.mono ?_
              rintro e w' ⟨rfl, hm, hw⟩
              have HR2 : Hid (EncAt W4 b b D (pre3 ++ (p.kids.take (k + 1)).flatMap (fun k => numLE k 4)) w') := ⟨hw, HR.out.mod.trans hm (fun _ _ h => h)⟩
              clear hm hw HT
              go_wp2_with fail
              go_roundw
              case rel => exact ⟨k + 1, by omega, by go_num, HR2⟩
              case measure => simp [intOf]; omega
            · have hk' : k = p.kids.length := by omega
              subst hk'
              have HR5 := HR.out
              rw [List.take_length, ← HENC.out] at HR5
              have HA := Lib.hid (WAll_calls b b _ wr HR5.wr HPOS.out)
              have HFIN : Hid (Mod NoB w wr) := (HM2.out.trans HM4.out (fun q hq h => by have := HWD.out; omega)).trans HR5.mod (fun q hq h => by have := HWD.out; omega)
              clear HR5
              go_wp2_with fail
              refine HA.out.mono ?_
              rintro e w' ⟨rfl, rfl⟩
              go_wp2_with fail
              go_ret2
              exact ⟨rfl, HFIN.out⟩

end Go.Proofs.YtgofngilfdnakaaGreat
