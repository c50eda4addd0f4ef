/-
  This text proves what the model's helpers of the package cupellaw04 (commit) do: under bounds on lengths.
-/
import Derived.Test.YtgofngilfdnakaaLaw4a
import Derived.Test.YtgofngilfdnakaaDiskD
namespace Go.Proofs.Ytgofngilfdnakaa
open Go Go.RowKit
attribute [local go_sem] over_cell over_frozen lt_over le_over noB loudUpon ByteArray.mk_append_mk ByteArray.extract_mk drop_full

/-- Records as cells. -/
def recCells (l : List (Int × Str)) : List Value := l.flatMap fun r => [.int .i64 r.1, .string ⟨r.2.toArray⟩]
theorem recCells_length (l : List (Int × Str)) : (recCells l).length = l.length * 2 := by
  induction l with
  | nil => rfl
  | cons r l ih => simp only [recCells, List.flatMap_cons, List.length_append, List.length_cons, List.length_nil] at *; omega
theorem recCells_append (l l' : List (Int × Str)) : recCells (l ++ l') = recCells l ++ recCells l' := by simp [recCells]
theorem recCells_one (l : List (Int × Str)) : ∀ u ∈ recCells l, u.oneCell' = true := by
  intro u hu
  obtain ⟨r, _, hr⟩ := List.mem_flatMap.1 hu
  rcases List.mem_cons.1 hr with rfl | hr
  · rfl
  · rw [List.mem_singleton.1 hr]; rfl
theorem infoRec : ∃ i z, Try.prog.info? 34 = some i ∧ i.zero = some z ∧ i.size = 2 ∧ i.bytes = 24 ∧ z.cells.size = 2 := by
  obtain ⟨i, h1, h2, h3, h4⟩ := info_of (P := Try.prog) (t := 34) (z := .agg #[.int .i64 0, .string ⟨#[]⟩]) (n := 2) (b := 24) (by kernel_rfl)
  exact ⟨i, _, h1, h2, h3, h4, rfl⟩

/-- Records that lie in a slice of the call's own. -/
def RecsAt (w : World) (base : Nat) (v : Value) (l : List (Int × Str)) : Prop := w.ownsRow base 34 2 v l.length (recCells l)

/-- Records are laid behind others. -/
theorem recs_append {W : World} {base base2 : Nat} {v v2 : Value} {l l2 : List (Int × Str)} (ty : TypeId) (h : RecsAt W base v l) (h2 : RecsAt W base2 v2 l2) (hn : l.length + l2.length ≤ 1000000) (hb : base ≤ W.heap.size) :
    ∃ v' W', (Builtin.append_ #[25, 25] ty #[v, v2]).run Try.prog W = .ok v' W' ∧ RecsAt W' base v' (l ++ l2) ∧ W.grownBy W' v.ownBlock ∧ (v'.ownBlock = v.ownBlock ∨ v'.ownBlock = some W.heap.size) := by
  obtain ⟨i, z, hi, hz, hz1, hz2, hz3⟩ := infoRec
  rcases h2.2 with ⟨hv2, hn2⟩ | ⟨g, cap, cur, hv2, _, hg, hnc, hcm, hcs, ht⟩
  · have hl2 : l2 = [] := List.eq_nil_of_length_eq_zero hn2
    subst hl2
    subst hv2
    have hsh : ∃ a c, v = .slice a l.length c ∧ l.length ≤ c := by
      rcases h.2 with ⟨hv, hn0⟩ | ⟨g, cap, cur, hv, _, _, hnc, _⟩
      · exact ⟨none, 0, by rw [hv, hn0], by omega⟩
      · exact ⟨_, cap, hv, hnc⟩
    obtain ⟨a, c, rfl, hlc⟩ := hsh
    refine ⟨_, W, run_append_nothing (P := Try.prog) W _ _ ty _ i Try.underlying25 hi a _ c hlc _ (Src.ofNil W Try.underlying25 0), ?_, ⟨rfl, rfl, rfl, Nat.le_refl _, fun _ _ _ => rfl⟩, .inl rfl⟩
    rw [List.append_nil]
    exact h
  · subst hv2
    obtain ⟨v', W', hrun, how, hgr, _, hblk⟩ := run_append_own_at (P := Try.prog) W base 25 ty 34 i z 2 24 Try.underlying25 hi hz hz1 hz2 hz3 (by omega) v l.length (recCells l) h
      ⟨g, 0, none⟩ l2.length cap (recCells l2) (recCells_length l2) (fun j u hj => by
        rw [Addr.add_mid, Nat.zero_add, cell_heap hg]
        rw [← ht, List.getElem?_take] at hj
        split at hj
        · simpa using hj
        · cases hj) (recCells_one l2) (by rw [maxLen_eq]; omega) (by omega) hb
    refine ⟨v', W', hrun, ?_, hgr, hblk⟩
    unfold RecsAt
    rw [List.length_append, recCells_append]
    exact how

theorem RecsAt.shape {w : World} {b : Nat} {v : Value} {l : List (Int × Str)} (h : RecsAt w b v l) : ∃ a n c, v = .slice a n c := by
  rcases h.2 with ⟨hv, _⟩ | ⟨g, cap, cur, hv, _⟩
  · exact ⟨_, _, _, hv⟩
  · exact ⟨_, _, _, hv⟩

set_option maxRecDepth 100000 in
set_option maxHeartbeats 3200000 in
theorem mcommit_calls (b1 b2 : Nat) (v1 v2 : Value) (sure wait : List (Int × Str)) (long more marks : Nat) (root0 root : Str) (w : World) (h1 : RecsAt w b1 v1 sure) (h2 : RecsAt w b2 v2 wait) (hn : sure.length + wait.length ≤ 1000000) (hr : root.length ≤ 1000000000) (hl : long ≤ 1000000000000) (hm : more ≤ 1000000000000) (hk : marks ≤ 1000000000000) :
    Calls Try.prog 29 #[.agg #[v1, v2, .int .i64 long, .int .i64 more, .string ⟨root0.toArray⟩, .int .i64 marks], .string ⟨root.toArray⟩] w fun e w' => ∃ v', e = .returned (.agg #[v', .slice none 0 0, .int .i64 (long + (more + (root.length + 9)) : Nat), .int .i64 0, .string ⟨root.toArray⟩, .int .i64 (marks + 1 : Nat)]) ∧ Mod NoB w w' ∧ RecsAt w' w.heap.size v' (sure ++ wait) := by
  obtain ⟨a1, n1, c1, rfl⟩ := h1.shape
  obtain ⟨a2, n2, c2, rfl⟩ := h2.shape
  obtain ⟨W, hW⟩ : ∃ W, (w.alloc (.cells #[.slice a1 n1 c1, .slice a2 n2 c2, .int .i64 long, .int .i64 more, .string ⟨root0.toArray⟩, .int .i64 marks] 27)).alloc (.cells #[.slice none 0 0, .slice none 0 0, .int .i64 0, .int .i64 0, .string ⟨#[]⟩, .int .i64 0] 27) = W := ⟨_, rfl⟩
  have hm0 : Mod NoB w W := by rw [← hW]; exact ((Mod.refl _ _).alloc _).alloc _
  have hws : W.heap.size = w.heap.size + 2 := by rw [← hW, size_alloc, size_alloc]
  have hbx : W.heap[w.heap.size]? = some (.cells #[.slice a1 n1 c1, .slice a2 n2 c2, .int .i64 long, .int .i64 more, .string ⟨root0.toArray⟩, .int .i64 marks] 27 (0, 0)) := by
    rw [← hW, heap_alloc_lt _ _ _ (by rw [size_alloc]; omega)]; exact heap_alloc_new _ _
  have hm1 : Mod NoB w (W.drew.alloc (.cells #[] 34)) := hm0.drew.alloc _
  have hown : RecsAt (W.drew.alloc (.cells #[] 34)) w.heap.size (.slice (some ⟨W.heap.size, 0, none⟩) 0 0) [] :=
    ⟨rfl, .inr ⟨W.heap.size, 0, #[], rfl, by omega, heap_alloc_new W.drew _, Nat.le_refl _, by rw [maxLen_eq]; omega, rfl, rfl⟩⟩
  obtain ⟨u1, X1, hrun1, ho1, hg1, hk1⟩ := recs_append 25 hown (ownsRow_mod h1 hm1 (fun _ _ => id)) (by simp only [List.length_nil]; omega) (by rw [size_alloc, heap_drew]; omega)
  have hwX1 : Mod NoB W X1 := (((Mod.refl NoB W).drew).alloc (.cells #[] 34)).grown hg1 (fun q hq hlt => by simp only [Value.ownBlock, Option.some.injEq] at hq; omega)
  have hlow1 : ∀ q, u1.ownBlock = some q → W.heap.size ≤ q := fun q hq => by
    rcases hk1 with e | e
    · rw [hq] at e; simp only [Value.ownBlock, Option.some.injEq] at e; omega
    · rw [hq, size_alloc, heap_drew] at e; simp only [Option.some.injEq] at e; omega
  have hmX1 : Mod NoB w X1 := hm0.trans hwX1 (fun _ _ h => h)
  rw [List.nil_append] at ho1
  obtain ⟨u2, X2, hrun2, ho2, hg2, hk2⟩ := recs_append 25 ho1 (ownsRow_mod h2 hmX1 (fun _ _ => id)) (by omega) hmX1.size
  have hwX2 : Mod NoB W X2 := hwX1.grown hg2 (fun q hq hlt => absurd (hlow1 q hq) (by omega))
  have hlow2 : ∀ q, u2.ownBlock = some q → W.heap.size ≤ q := fun q hq => by
    rcases hk2 with e | e
    · exact hlow1 q (by rw [← e, hq])
    · rw [hq] at e
      simp only [Option.some.injEq] at e
      rw [e]
      exact hwX1.size
  have HLOW := Lib.hid hlow2; clear hlow2
  obtain ⟨a3, n3, c3, rfl⟩ := ho2.shape
  obtain ⟨a4, n4, c4, rfl⟩ := ho1.shape
  have hb0 : W.heap[w.heap.size + 1]? = some (.cells #[.slice none 0 0, .slice none 0 0, .int .i64 0, .int .i64 0, .string ⟨#[]⟩, .int .i64 0] 27 (0, 0)) := by
    rw [← hW]
    have := heap_alloc_new (w.alloc (.cells #[.slice a1 n1 c1, .slice a2 n2 c2, .int .i64 long, .int .i64 more, .string ⟨root0.toArray⟩, .int .i64 marks] 27)) (.cells #[.slice none 0 0, .slice none 0 0, .int .i64 0, .int .i64 0, .string ⟨#[]⟩, .int .i64 0] 27)
    rwa [size_alloc] at this
  have k0 := cell_heap hbx 0
  have k1 := cell_heap hbx 1
  have x1 := cell_heap ((hwX1.block _ (lt_heap hbx) id).trans hbx) 1
  have bX1 := lt_heap ((hwX1.block _ (lt_heap hbx) id).trans hbx)
  have hbX2 := (hwX2.block _ (lt_heap hbx) id).trans hbx
  have z0 := cell_heap hbX2 0
  have z1 := cell_heap hbX2 1
  have z2 := cell_heap hbX2 2
  have z3 := cell_heap hbX2 3
  have z4 := cell_heap hbX2 4
  have z5 := cell_heap hbX2 5
  have zf := frozen_heap hbX2
  have zb := lt_heap hbX2
  have hrX2 := (hwX2.block _ (lt_heap hb0) id).trans hb0
  have r0 := cell_heap hrX2 0
  have r1 := cell_heap hrX2 1
  have r2 := cell_heap hrX2 2
  have r3 := cell_heap hrX2 3
  have r4 := cell_heap hrX2 4
  have r5 := cell_heap hrX2 5
  have rf := frozen_heap hrX2
  have rb := lt_heap hrX2
  have bW := lt_heap hbx
  simp only [List.getElem?_toArray, List.getElem?_cons_zero, List.getElem?_cons_succ] at k0 k1 x1 z0 z1 z2 z3 z4 z5 r0 r1 r2 r3 r4 r5
  have HO2 := Lib.hid ho2
  have HM2 : Hid (Mod NoB w X2) := hm0.trans hwX2 (fun _ _ h => h)
  have HFR := Lib.hid (fun X => frame4_calls root X hr)
  clear h1 h2 hm0 hm1 hown ho1 hg1 hk1 hwX1 hlow1 hmX1 ho2 hg2 hk2 hwX2 hb0 hbx hbX2 hrX2 hn
  have hws3 : w.heap.size + 2 ≤ W.heap.size := by omega
  clear hws
  go_enter Try.func29, Try.ntmps29
  go_wp2
  clear hW
  refine wp_region_staged [⟨0, 0, true⟩, ⟨0, 3, false⟩, ⟨0, 1, false⟩, ⟨1, 1, true⟩, ⟨0, 3, false⟩, ⟨0, 2, false⟩, ⟨2, 2, true⟩, ⟨3, 3, false⟩, ⟨3, 3, true⟩] 4 (clsOf ((fun W : World => [fun w' => ∃ _ : Unit, w' = W.drew, fun w' => ∃ _ : Unit, w' = W.drew.alloc (.cells #[] 34), fun w' => ∃ _ : Unit, w' = X1, fun w' => ∃ _ : Unit, w' = X2, fun w' => ∃ _ : Unit, w' = X2.setCell ⟨w.heap.size, 0, none⟩ (.slice a3 n3 c3)]) _)) (by kernel_rfl) (by kernel_rfl) (by first | exact Cls.drew _ _ | exact ⟨(), rfl⟩) ?_
  apply wpSt_loud _ rfl rfl rfl
  · (rintro _ ⟨x, rfl⟩; unfold loudAt; go_simp; first | done | rfl | exact ⟨rfl, rfl⟩ | exact ⟨rfl, ⟨(), rfl⟩⟩)
  simp only [Act.put, List.setIfInBounds_toArray, List.set_cons_succ, List.set_cons_zero]
  refine wpSt_four rfl rfl rfl rfl ⟨_, rfl, by simp⟩ ?_
  go_big_quiet_step (fail)
  refine wpQuiet_nil ?_
  go_big_quiet_step (fail)
  refine wpQuiet_nil ?_
  refine ⟨rfl, ?_⟩
  go_big_quiet_step (fail)
  refine wpQuiet_nil ?_
  refine ⟨rfl, ?_⟩
  go_big_quiet_step (fail)
  refine wpQuiet_nil ?_
  refine ⟨rfl, ?_⟩
  refine wpSt_two rfl rfl ⟨_, rfl, by simp⟩ ?_
  go_big_quiet_step (fail)
  refine wpQuiet_nil ?_
  go_big_quiet_step (fail)
  refine wpQuiet_nil ?_
  refine ⟨rfl, ?_⟩
  apply wpSt_loud _ rfl rfl rfl
  · (rintro _ ⟨x, rfl⟩; exact loudAt_append _ _ _ rfl rfl rfl (by assumption) (by first | exact ⟨(), rfl⟩ | rfl))
  simp only [Act.put, List.setIfInBounds_toArray, List.set_cons_succ, List.set_cons_zero]
  refine wpSt_four rfl rfl rfl rfl ⟨_, rfl, by simp⟩ ?_
  go_big_quiet_step (fail)
  refine wpQuiet_nil ?_
  go_big_quiet_step (fail)
  refine wpQuiet_nil ?_
  refine ⟨rfl, ?_⟩
  go_big_quiet_step (fail)
  refine wpQuiet_nil ?_
  refine ⟨rfl, ?_⟩
  go_big_quiet_step (fail)
  refine wpQuiet_nil ?_
  refine ⟨rfl, ?_⟩
  refine wpSt_three rfl rfl rfl ⟨_, rfl, by simp⟩ ?_
  go_big_quiet_step (fail)
  refine wpQuiet_nil ?_
  go_big_quiet_step (fail)
  refine wpQuiet_nil ?_
  refine ⟨rfl, ?_⟩
  go_big_quiet_step (fail)
  refine wpQuiet_nil ?_
  refine ⟨rfl, ?_⟩
  apply wpSt_loud _ rfl rfl rfl
  · (rintro _ ⟨x, rfl⟩; exact loudAt_append _ _ _ rfl rfl rfl (by assumption) (by first | exact ⟨(), rfl⟩ | rfl))
  simp only [Act.put, List.setIfInBounds_toArray, List.set_cons_succ, List.set_cons_zero]
  refine wpSt_same rfl ?_
  go_big_quiet_step (fail)
  refine wpQuiet_nil ?_
  refine wpSt_store rfl rfl rfl rfl ?_ ?_
  · (rintro _ ⟨x, rfl⟩; unfold loudAt; go_simp; first | done | exact ⟨_, rfl⟩)
  refine wpSt_nil ?_
  rintro _ ⟨_, rfl⟩
  go_wp2
  refine wp_region_quiet_tail 8 (fun w' => ∃ x, w' = over _ (NoB) x) (by kernel_rfl) (by kernel_rfl) (Cls.drew _ _) ?_
  simp only [List.take_succ_cons, List.take_zero, List.drop_succ_cons, List.drop_zero]
  repeat (go_big_quiet_step ((go_at_call 33; exact Calls.cls (fun _ _ h => h) (HFR.out _))))
  refine wpQuiet_nil ?_
  rintro _ ⟨y, rfl⟩
  go_wp2
  have hY := (over_mod (X2.setCell ⟨w.heap.size, 0, none⟩ (.slice a3 n3 c3)) NoB y).size
  rw [size_setCell] at hY
  refine bodyPost_ret (v := .agg #[.slice a3 n3 c3, .slice none 0 0, .int .i64 (long + (more + (root.length + 9)) : Nat), .int .i64 0, .string ⟨root.toArray⟩, .int .i64 (marks + 1 : Nat)]) (by simp [results, Try.f29, go_sem, rb, r0, r1, r2, r3, r4, r5]) rfl ?_
  refine ⟨_, rfl, ?_, ?_⟩
  · have HX := HM2
    (repeat (first | with_reducible exact HX.out | with_reducible refine Mod.drew ?_ | with_reducible refine Mod.drewN _ ?_ | with_reducible refine Mod.alloc ?_ _ | ((with_reducible refine Mod.setCell ?_ _ _ ?_); rotate_left; (intro h; (exact absurd h (by simp only []; omega)))) | refine Mod.over' ?_ _ (fun _ _ h => h) | refine Mod.over' ?_ _ (fun _ _ h => False.elim h)))
  · refine ownsRow_mod (G := fun k => k = w.heap.size ∨ k = w.heap.size + 1) HO2.out ?_ (fun q hq e => by have := HLOW.out q hq; omega)
    have HX := Lib.hid (Mod.refl (fun k => k = w.heap.size ∨ k = w.heap.size + 1) X2)
    (repeat (first | with_reducible exact HX.out | with_reducible refine Mod.drew ?_ | with_reducible refine Mod.drewN _ ?_ | with_reducible refine Mod.alloc ?_ _ | ((with_reducible refine Mod.setCell ?_ _ _ ?_); rotate_left; (intro h; (first | exact .inl rfl | exact .inr rfl))) | refine Mod.over' ?_ _ (fun _ _ h => h) | refine Mod.over' ?_ _ (fun _ _ h => False.elim h)))

end Go.Proofs.Ytgofngilfdnakaa
