/-
  This text proves what the helper replaced of the package cupellaw04 makes: under bounds on lengths.
-/
import Derived.Test.YtgofngilfdnakaaLawS
namespace Go.Proofs.Ytgofngilfdnakaa
open Go Go.RowKit
attribute [local go_sem] over_cell over_frozen lt_over le_over noB loudUpon ByteArray.mk_append_mk ByteArray.extract_mk drop_full

/-- Records at the places where their frames stand, one behind the other. -/
def placed : Nat → List Str → List (Int × Str)
  | _, [] => []
  | k, s :: l => ((k : Int), s) :: placed (k + (s.length + 9)) l
theorem placed_length : ∀ (k : Nat) (l : List Str), (placed k l).length = l.length
  | _, [] => rfl
  | k, s :: l => by simp [placed, placed_length]
theorem datas_length_cons (s : Str) (l : List Str) : (datas (s :: l)).length = s.length + 9 + (datas l).length := by
  rw [datas_cons, List.length_append, frame_length, List.length_cons]
theorem placed_snoc : ∀ (k : Nat) (l : List Str) (s : Str), placed k (l ++ [s]) = placed k l ++ [(((k + (datas l).length : Nat) : Int), s)]
  | k, [], s => rfl
  | k, x :: l, s => by
    rw [List.cons_append, placed, placed, placed_snoc, List.cons_append, datas_length_cons]
    rw [show k + (x.length + 9) + (datas l).length = k + (x.length + 9 + (datas l).length) by omega]
theorem datas_snoc (l : List Str) (s : Str) : (datas (l ++ [s])).length = (datas l).length + (s.length + 9) := by
  rw [datas_append, List.length_append, datas_length_cons]
  simp [datas]
theorem datas_le : ∀ (l : List Str) (n : Nat), (∀ s ∈ l, s.length ≤ n) → (datas l).length ≤ l.length * (n + 9)
  | [], _, _ => by simp [datas]
  | s :: l, n, h => by
    have h1 := datas_le l n (fun x hx => h x (List.mem_cons_of_mem _ hx))
    have h2 := h s List.mem_cons_self
    rw [datas_length_cons, List.length_cons, Nat.succ_mul]
    omega
def Md.laid (l : List Str) (root : Str) : Md := ⟨placed 0 l, [], (datas l).length + (root.length + 9), 0, root, 1⟩
def Md.laying (l : List Str) (root : Str) : Md := ⟨placed 0 l, [], (datas l).length, 0, root, 1⟩

set_option maxRecDepth 100000 in
set_option maxHeartbeats 3200000 in
theorem replaced_calls (v : Value) (l : List Str) (root : Str) (w : World) (h : StrsIn w v l) (hn : l.length ≤ 1000) (hs : ∀ s ∈ l, s.length ≤ 1000) (hr : root.length ≤ 1000) :
    Calls Try.prog 17 #[v, .string ⟨root.toArray⟩] w fun e w' => ∃ v', e = .returned (.agg #[v', .slice none 0 0, .int .i64 (Md.laid l root).long, .int .i64 0, .string ⟨root.toArray⟩, .int .i64 1]) ∧ Mod NoB w w' ∧ RecsAt w' w.heap.size v' (Md.laid l root).sure := by
  obtain ⟨a, cap, rfl, hlc, hcm, hcell⟩ := h
  rw [maxLen_eq] at hcm
  have HC := Lib.hid hcell
  have HS := Lib.hid hs
  have hdl := datas_le l 1000 hs
  have hdb : (datas l).length ≤ 2000000 := by
    have := Nat.mul_le_mul_right (1000 + 9) hn
    omega
  have HFRR := Lib.hid (fun X => frame4_calls root X (by omega))
  clear hcell hs hdl
  have hW0 : ((w.alloc (.cells #[.slice none 0 0, .slice none 0 0, .int .i64 0, .int .i64 0, .string ⟨#[]⟩, .int .i64 0] 27)).alloc (.cells #[.slice none 0 0, .slice none 0 0, .int .i64 0, .int .i64 0, .string ⟨root.toArray⟩, .int .i64 1] 27)).heap[w.heap.size + 1]? = some (.cells #[.slice none 0 0, .slice none 0 0, .int .i64 0, .int .i64 0, .string ⟨root.toArray⟩, .int .i64 1] 27 (0, 0)) := by
    have := heap_alloc_new (w.alloc (.cells #[.slice none 0 0, .slice none 0 0, .int .i64 0, .int .i64 0, .string ⟨#[]⟩, .int .i64 0] 27)) (.cells #[.slice none 0 0, .slice none 0 0, .int .i64 0, .int .i64 0, .string ⟨root.toArray⟩, .int .i64 1] 27)
    rwa [size_alloc] at this
  have hW1 : ((w.alloc (.cells #[.slice none 0 0, .slice none 0 0, .int .i64 0, .int .i64 0, .string ⟨#[]⟩, .int .i64 0] 27)).alloc (.cells #[.slice none 0 0, .slice none 0 0, .int .i64 0, .int .i64 0, .string ⟨root.toArray⟩, .int .i64 1] 27)).heap[w.heap.size]? = some (.cells #[.slice none 0 0, .slice none 0 0, .int .i64 0, .int .i64 0, .string ⟨#[]⟩, .int .i64 0] 27 (0, 0)) := by
    rw [heap_alloc_lt _ _ _ (by rw [size_alloc]; omega)]; exact heap_alloc_new _ _
  have HW0 := Lib.hid hW0
  have HW1 := Lib.hid hW1
  have hmw : Mod NoB w ((w.alloc (.cells #[.slice none 0 0, .slice none 0 0, .int .i64 0, .int .i64 0, .string ⟨#[]⟩, .int .i64 0] 27)).alloc (.cells #[.slice none 0 0, .slice none 0 0, .int .i64 0, .int .i64 0, .string ⟨root.toArray⟩, .int .i64 1] 27)) := ((Mod.refl _ _).alloc _).alloc _
  have HMW := Lib.hid hmw
  clear hW0 hW1 hmw
  go_enter Try.func17, Try.ntmps17
  go_wp2
  generalize (w.alloc (.cells #[.slice none 0 0, .slice none 0 0, .int .i64 0, .int .i64 0, .string ⟨#[]⟩, .int .i64 0] 27)).alloc (.cells #[.slice none 0 0, .slice none 0 0, .int .i64 0, .int .i64 0, .string ⟨root.toArray⟩, .int .i64 1] 27) = W0 at *
  go_loopw [6] (fun i wr => ∃ k : Nat, k ≤ l.length ∧ i = .int .i64 k ∧ Hid (∃ v, Mod NoB w wr ∧ Box wr (w.heap.size + 1) v (.slice none 0 0) (Md.laying (l.take k) root) ∧ RecsAt wr w.heap.size v (placed 0 (l.take k)) ∧ v.ownBlock ≠ some (w.heap.size + 1) ∧ v.ownBlock ≠ some w.heap.size ∧ Box wr w.heap.size (.slice none 0 0) (.slice none 0 0) Md.zero)) (fun i _ => l.length - (intOf i).toNat)
  case atStart => exact ⟨0, by omega, rfl, _, HMW.out, HW0.out, recs_nil rfl, by simp [Value.ownBlock], by simp [Value.ownBlock], HW1.out⟩
  case round =>
    obtain ⟨k, hkl, rfl, HREL⟩ := hrel
    by_cases hlt : k < l.length
    · obtain ⟨v, hM, hB, hR, hne, hne0, hB0⟩ := HREL.out
      obtain ⟨a1, n1, c1, rfl⟩ := hR.shape
      obtain ⟨b, o, rfl, hb, hc⟩ := HC.out k hlt
      have hcw : wr.cell? ⟨b, o + k, none⟩ = some (.string ⟨(l[k]?.getD []).toArray⟩) := (World.cell?_of_block (w := w) (hM.block b hb id)).trans hc
      have hbw := Nat.lt_of_lt_of_le hb hM.size
      have hsl : (l[k]?.getD []).length ≤ 1000 := HS.out _ (by rw [List.getElem?_eq_getElem hlt]; exact List.getElem_mem hlt)
      have htk : l.take (k + 1) = l.take k ++ [l[k]?.getD []] := by rw [List.take_succ_eq_append_getElem hlt, List.getElem?_eq_getElem hlt]; rfl
      have hdt : (datas (l.take k)).length ≤ 2000000 := by
        have := datas_append (l.take k) (l.drop k)
        rw [List.take_append_drop] at this
        have h2 := congrArg List.length this
        rw [List.length_append] at h2
        omega
      have hdt2 : (datas (l.take (k + 1))).length = (datas (l.take k)).length + ((l[k]?.getD []).length + 9) := by rw [htk, datas_snoc]
      have hpl : placed 0 (l.take (k + 1)) = placed 0 (l.take k) ++ [(((datas (l.take k)).length : Int), l[k]?.getD [])] := by rw [htk, placed_snoc, Nat.zero_add]
      have hpn : (placed 0 (l.take k)).length ≤ 1000 := by rw [placed_length, List.length_take]; omega
      generalize l[k]?.getD [] = s at *
      generalize hT : (datas (l.take k)).length = T at *
      obtain ⟨ub, u0, u1, u2, u3, u4, u5, uf⟩ := hB.facts
      simp only [Md.laying, hT] at u2 u3 u4 u5
      have hown := recs_one (w := wr.drew.alloc (.cells #[.int .i64 T, .string ⟨s.toArray⟩] 34)) (heap_alloc_new wr.drew _) (Nat.le_refl _)
      have hm1 : Mod NoB wr (wr.drew.alloc (.cells #[.int .i64 T, .string ⟨s.toArray⟩] 34)) := (Mod.refl NoB wr).drew.alloc _
      obtain ⟨v2, X1, hrun1, ho1, hg1, hk1⟩ := recs_append 25 (ownsRow_mod hR hm1 (fun _ _ => id)) hown (by simp only [List.length_cons, List.length_nil]; omega) (Nat.le_trans hM.size hm1.size)
      have hlow : ∀ q, (Value.slice a1 n1 c1).ownBlock = some q → w.heap.size ≤ q := fun q hq => (hR.lt q hq).1
      have hX1 : Mod (fun q => (Value.slice a1 n1 c1).ownBlock = some q ∨ v2.ownBlock = some q) wr X1 := (hm1.mono (noB_sub _ _)).grown hg1 (fun q hq hlt => .inl hq)
      have hX1b : ∀ q, v2.ownBlock = some q → (Value.slice a1 n1 c1).ownBlock = some q ∨ wr.heap.size ≤ q := fun q hq => by
        rcases hk1 with e | e
        · exact .inl (e ▸ hq)
        · rw [hq, size_alloc, heap_drew] at e; simp only [Option.some.injEq] at e; exact .inr (by omega)
      have hsz0 := hM.size
      have hMX : Mod NoB w X1 := hM.trans hX1 (fun q hq e => by
        rcases e with e | e
        · exact absurd (hlow q e) (by omega)
        · rcases hX1b q e with e2 | e2
          · exact absurd (hlow q e2) (by omega)
          · omega)
      have hne2 : v2.ownBlock ≠ some (w.heap.size + 1) := fun e => by
        rcases hX1b _ e with e2 | e2
        · exact hne e2
        · omega
      have hne3 : v2.ownBlock ≠ some w.heap.size := fun e => by
        rcases hX1b _ e with e2 | e2
        · exact hne0 e2
        · omega
      have hBX : Box X1 (w.heap.size + 1) (.slice a1 n1 c1) (.slice none 0 0) (Md.laying (l.take k) root) := (hX1.block _ ub (fun e => by rcases e with e | e; exact hne e; exact hne2 e)).trans hB
      have hBX0 : Box X1 w.heap.size (.slice none 0 0) (.slice none 0 0) Md.zero := (hX1.block _ (lt_heap hB0) (fun e => by rcases e with e | e; exact hne0 e; exact hne3 e)).trans hB0
      obtain ⟨xb, x0, x1, x2, x3, x4, x5, xf⟩ := hBX.facts
      simp only [Md.laying, hT] at x2 x3 x4 x5
      obtain ⟨a2, n2, c2, rfl⟩ := ho1.shape
      have hcx : X1.cell? ⟨b, o + k, none⟩ = some (.string ⟨s.toArray⟩) := (World.cell?_of_block (w := w) (hMX.block b hb id)).trans hc
      have hbx := Nat.lt_of_lt_of_le hb hMX.size
      have HBX := Lib.hid hBX
      have HBX0 := Lib.hid hBX0
      have HMX := Lib.hid hMX
      have HO1 := Lib.hid ho1
      have HPL := Lib.hid hpl
      have HDT := Lib.hid hdt2
      have HNE : Hid ((Value.slice a2 n2 c2).ownBlock ≠ some (w.heap.size + 1) ∧ (Value.slice a2 n2 c2).ownBlock ≠ some w.heap.size) := ⟨hne2, hne3⟩
      have HFR := Lib.hid (fun X => frame4_calls s X (by omega))
      have hbd : b ≠ w.heap.size + 1 := by omega
      clear hM hB hR hne hne0 hB0 hc hown hm1 ho1 hg1 hk1 hlow hX1 hX1b hMX hne2 hne3 hBX hBX0 hpl hdt2 htk HREL hsz0
      go_wp2
      refine wp_region_staged [⟨0, 2, false⟩, ⟨0, 1, false⟩, ⟨0, 2, false⟩, ⟨0, 2, false⟩, ⟨0, 2, false⟩, ⟨0, 2, false⟩, ⟨0, 2, false⟩, ⟨0, 2, false⟩, ⟨0, 0, false⟩, ⟨0, 0, true⟩, ⟨1, 1, true⟩, ⟨2, 2, false⟩, ⟨2, 2, true⟩] 3 (clsOf ((fun W : World => [fun w' => ∃ _ : Unit, w' = W.drew, fun w' => ∃ _ : Unit, w' = W.drew.alloc (.cells #[.int .i64 T, .string ⟨s.toArray⟩] 34), fun w' => ∃ _ : Unit, w' = X1, fun w' => ∃ _ : Unit, w' = X1.setCell ⟨w.heap.size + 1, 0, none⟩ (.slice a2 n2 c2)]) _)) (by kernel_rfl) (by kernel_rfl) (by first | exact Cls.drew _ _ | exact ⟨(), rfl⟩) ?_
      refine wpSt_three rfl rfl rfl ⟨_, rfl, by simp⟩ ?_
      go_big_quiet_step (fail)
      refine wpQuiet_nil ?_
      go_big_quiet_step (fail)
      refine wpQuiet_nil ?_
      refine ⟨rfl, ?_⟩
      go_big_quiet_step (fail)
      refine wpQuiet_nil ?_
      refine ⟨rfl, ?_⟩
      refine wpSt_two rfl rfl ⟨_, rfl, by simp⟩ ?_
      go_big_quiet_step (fail)
      refine wpQuiet_nil ?_
      go_big_quiet_step (fail)
      refine wpQuiet_nil ?_
      refine ⟨rfl, ?_⟩
      refine wpSt_three rfl rfl rfl ⟨_, rfl, by simp⟩ ?_
      go_big_quiet_step (fail)
      refine wpQuiet_nil ?_
      go_big_quiet_step (fail)
      refine wpQuiet_nil ?_
      refine ⟨rfl, ?_⟩
      go_big_quiet_step (fail)
      refine wpQuiet_nil ?_
      refine ⟨rfl, ?_⟩
      refine wpSt_three rfl rfl rfl ⟨_, rfl, by simp⟩ ?_
      go_big_quiet_step (fail)
      refine wpQuiet_nil ?_
      go_big_quiet_step (fail)
      refine wpQuiet_nil ?_
      refine ⟨rfl, ?_⟩
      go_big_quiet_step (fail)
      refine wpQuiet_nil ?_
      refine ⟨rfl, ?_⟩
      refine wpSt_three rfl rfl rfl ⟨_, rfl, by simp⟩ ?_
      go_big_quiet_step (fail)
      refine wpQuiet_nil ?_
      go_big_quiet_step (fail)
      refine wpQuiet_nil ?_
      refine ⟨rfl, ?_⟩
      go_big_quiet_step (fail)
      refine wpQuiet_nil ?_
      refine ⟨rfl, ?_⟩
      refine wpSt_three rfl rfl rfl ⟨_, rfl, by simp⟩ ?_
      go_big_quiet_step (fail)
      refine wpQuiet_nil ?_
      go_big_quiet_step (fail)
      refine wpQuiet_nil ?_
      refine ⟨rfl, ?_⟩
      go_big_quiet_step (fail)
      refine wpQuiet_nil ?_
      refine ⟨rfl, ?_⟩
      refine wpSt_three rfl rfl rfl ⟨_, rfl, by simp⟩ ?_
      go_big_quiet_step (fail)
      refine wpQuiet_nil ?_
      go_big_quiet_step (fail)
      refine wpQuiet_nil ?_
      refine ⟨rfl, ?_⟩
      go_big_quiet_step (fail)
      refine wpQuiet_nil ?_
      refine ⟨rfl, ?_⟩
      refine wpSt_three rfl rfl rfl ⟨_, rfl, by simp⟩ ?_
      go_big_quiet_step (fail)
      refine wpQuiet_nil ?_
      go_big_quiet_step (fail)
      refine wpQuiet_nil ?_
      refine ⟨rfl, ?_⟩
      go_big_quiet_step (fail)
      refine wpQuiet_nil ?_
      refine ⟨rfl, ?_⟩
      refine wpSt_same rfl ?_
      go_big_quiet_step (fail)
      refine wpQuiet_nil ?_
      apply wpSt_loud _ rfl rfl rfl
      · (rintro _ ⟨x, rfl⟩; unfold loudAt; go_simp; first | done | rfl | exact ⟨rfl, rfl⟩ | exact ⟨rfl, ⟨(), rfl⟩⟩)
      simp only [Act.put, List.setIfInBounds_toArray, List.set_cons_succ, List.set_cons_zero]
      apply wpSt_loud _ rfl rfl rfl
      · (rintro _ ⟨x, rfl⟩; exact loudAt_append _ _ _ rfl rfl rfl (by assumption) (by first | exact ⟨(), rfl⟩ | rfl))
      simp only [Act.put, List.setIfInBounds_toArray, List.set_cons_succ, List.set_cons_zero]
      refine wpSt_same rfl ?_
      go_big_quiet_step (fail)
      refine wpQuiet_nil ?_
      refine wpSt_store rfl rfl rfl rfl ?_ ?_
      · (rintro _ ⟨x, rfl⟩; unfold loudAt; go_simp; first | done | exact ⟨_, rfl⟩)
      refine wpSt_nil ?_
      rintro _ ⟨_, rfl⟩
      go_wp2
      refine wp_region_quiet_tail 8 (fun w' => ∃ x, w' = over _ (NoB) x) (by kernel_rfl) (by kernel_rfl) (Cls.drew _ _) ?_
      simp only [List.take_succ_cons, List.take_zero, List.drop_succ_cons, List.drop_zero]
      repeat (go_big_quiet_step ((go_at_call 33; exact Calls.cls (fun _ _ h => h) (HFR.out _))))
      refine wpQuiet_nil ?_
      rintro _ ⟨y, rfl⟩
      go_wp2
      have hz1 : (X1.setCell ⟨w.heap.size + 1, 0, none⟩ (.slice a2 n2 c2)).heap[w.heap.size + 1]? = some (.cells #[.slice a2 n2 c2, .slice none 0 0, .int .i64 T, .int .i64 0, .string ⟨root.toArray⟩, .int .i64 1] 27 (0, 0)) := by
        have h := HBX.out
        unfold Box at h
        simp only [heap_setCell_same, h, Option.map_some, setAt_cells, Md.vals, Md.laying, hT, List.setIfInBounds_toArray, List.set_cons_zero]
        rfl
      have hz2 := (over_heap (x := y) (F := NoB) (lt_heap hz1) id).trans hz1
      have hz3 : Box ((over (X1.setCell ⟨w.heap.size + 1, 0, none⟩ (.slice a2 n2 c2)) NoB y).setCell ⟨w.heap.size + 1, 2, none⟩ (.int .i64 ((T : Int) + ((s.length : Int) + 9)))) (w.heap.size + 1) (.slice a2 n2 c2) (.slice none 0 0) (Md.laying (l.take (k + 1)) root) := by
        have e : ((T : Int) + ((s.length : Int) + 9)) = (((datas (l.take (k + 1))).length : Nat) : Int) := by rw [HDT.out]; omega
        unfold Box
        rw [e]
        simp only [heap_setCell_same, hz2, Option.map_some, setAt_cells, Md.vals, Md.laying, List.setIfInBounds_toArray, List.set_cons_zero, List.set_cons_succ]
        rfl
      have hZ : Mod (fun q => q = w.heap.size + 1) X1 ((over (X1.setCell ⟨w.heap.size + 1, 0, none⟩ (.slice a2 n2 c2)) NoB y).setCell ⟨w.heap.size + 1, 2, none⟩ (.int .i64 ((T : Int) + ((s.length : Int) + 9)))) := by
        refine Mod.setCell ?_ _ _ (fun _ => rfl)
        refine Mod.over' ?_ _ (noB_sub _ _)
        exact Mod.setCell (Mod.refl _ _) _ _ (fun _ => rfl)
      have HREL2 : Hid (∃ v, Mod NoB w ((over (X1.setCell ⟨w.heap.size + 1, 0, none⟩ (.slice a2 n2 c2)) NoB y).setCell ⟨w.heap.size + 1, 2, none⟩ (.int .i64 ((T : Int) + ((s.length : Int) + 9)))) ∧ Box ((over (X1.setCell ⟨w.heap.size + 1, 0, none⟩ (.slice a2 n2 c2)) NoB y).setCell ⟨w.heap.size + 1, 2, none⟩ (.int .i64 ((T : Int) + ((s.length : Int) + 9)))) (w.heap.size + 1) v (.slice none 0 0) (Md.laying (l.take (k + 1)) root) ∧ RecsAt ((over (X1.setCell ⟨w.heap.size + 1, 0, none⟩ (.slice a2 n2 c2)) NoB y).setCell ⟨w.heap.size + 1, 2, none⟩ (.int .i64 ((T : Int) + ((s.length : Int) + 9)))) w.heap.size v (placed 0 (l.take (k + 1))) ∧ v.ownBlock ≠ some (w.heap.size + 1) ∧ v.ownBlock ≠ some w.heap.size ∧ Box ((over (X1.setCell ⟨w.heap.size + 1, 0, none⟩ (.slice a2 n2 c2)) NoB y).setCell ⟨w.heap.size + 1, 2, none⟩ (.int .i64 ((T : Int) + ((s.length : Int) + 9)))) w.heap.size (.slice none 0 0) (.slice none 0 0) Md.zero) := by
        refine ⟨.slice a2 n2 c2, HMX.out.trans hZ (fun q hq e => by omega), hz3, ?_, HNE.out.1, HNE.out.2, (hZ.block _ (lt_heap HBX0.out) (by omega)).trans HBX0.out⟩
        rw [HPL.out]
        exact ownsRow_mod HO1.out hZ (fun q hq e => HNE.out.1 (e ▸ hq))
      clear hz1 hz2 hz3 hZ HBX HBX0 HMX HO1 HFR u0 u1 u2 u3 u4 u5 uf ub x0 x1 x2 x3 x4 x5 xf xb hcx hbx hcw hbw
      go_roundw
      case rel => exact ⟨k + 1, by omega, by go_num, HREL2⟩
      case measure => simp [intOf]; omega
    · have hk : k = l.length := by omega
      subst hk
      rw [List.take_length] at HREL
      obtain ⟨v, hM, hB, hR, hne, hne0, hB0⟩ := HREL.out
      obtain ⟨a1, n1, c1, rfl⟩ := hR.shape
      obtain ⟨ub, u0, u1, u2, u3, u4, u5, uf⟩ := hB.facts
      obtain ⟨zb, z0, z1, z2, z3, z4, z5, zf⟩ := hB0.facts
      simp only [Md.laying] at u2 u3 u4 u5
      simp only [Md.zero] at z2 z3 z4 z5
      have HM := Lib.hid hM
      have HR := Lib.hid hR
      have HNE : Hid ((Value.slice a1 n1 c1).ownBlock ≠ some (w.heap.size + 1) ∧ (Value.slice a1 n1 c1).ownBlock ≠ some w.heap.size) := ⟨hne, hne0⟩
      generalize hT : (datas l).length = T at *
      have HT := Lib.hid hT
      clear hM hB hR hne hne0 hB0 HREL hT
      go_wp2
      refine wp_region_quiet_tail 5 (fun w' => ∃ x, w' = over _ (NoB) x) (by kernel_rfl) (by kernel_rfl) (Cls.drew _ _) ?_
      simp only [List.take_succ_cons, List.take_zero, List.drop_succ_cons, List.drop_zero]
      repeat (go_big_quiet_step ((go_at_call 33; exact Calls.cls (fun _ _ h => h) (HFRR.out _))))
      refine wpQuiet_nil ?_
      rintro _ ⟨y, rfl⟩
      go_wp2
      refine bodyPost_ret (v := .agg #[.slice a1 n1 c1, .slice none 0 0, .int .i64 ((T : Int) + ((root.length : Int) + 9)), .int .i64 0, .string ⟨root.toArray⟩, .int .i64 1]) (by simp [results, Try.f17, go_sem, zb, z0, z1, z2, z3, z4, z5]) rfl ?_
      refine ⟨.slice a1 n1 c1, ?_, ?_, ?_⟩
      · have e : ((T : Int) + ((root.length : Int) + 9)) = (((Md.laid l root).long : Nat) : Int) := by simp only [Md.laid, HT.out]; omega
        rw [e]
      · have HX := HM
        (repeat (first | with_reducible exact HX.out | with_reducible refine Mod.drew ?_ | with_reducible refine Mod.drewN _ ?_ | with_reducible refine Mod.alloc ?_ _ | ((with_reducible refine Mod.setCell ?_ _ _ ?_); rotate_left; (intro h; (exact absurd h (by simp only []; omega)))) | refine Mod.over' ?_ _ (fun _ _ h => h) | refine Mod.over' ?_ _ (fun _ _ h => False.elim h)))
      · refine ownsRow_mod (G := fun k => k = w.heap.size ∨ k = w.heap.size + 1) HR.out ?_ (fun q hq e => by rcases e with e | e; exact HNE.out.2 (e ▸ hq); exact HNE.out.1 (e ▸ hq))
        have HX := Lib.hid (Mod.refl (fun k => k = w.heap.size ∨ k = w.heap.size + 1) wr)
        (repeat (first | with_reducible exact HX.out | with_reducible refine Mod.drew ?_ | with_reducible refine Mod.drewN _ ?_ | with_reducible refine Mod.alloc ?_ _ | ((with_reducible refine Mod.setCell ?_ _ _ ?_); rotate_left; (intro h; (first | exact .inl rfl | exact .inr rfl))) | refine Mod.over' ?_ _ (fun _ _ h => h) | refine Mod.over' ?_ _ (fun _ _ h => False.elim h)))

end Go.Proofs.Ytgofngilfdnakaa
