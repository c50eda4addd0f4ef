/-
  This text proves what slices.Delete does to a plan of one fall, and what disk's changes (Append, Write, Move, Remove, Truncate) do to a disk in memory: under bounds that the callers meet.
-/
import Derived.Test.YtgofngilfdnakaaCrash
namespace Go.Proofs.Ytgofngilfdnakaa
open Go Go.RowKit
attribute [local go_sem] over_cell over_frozen lt_over le_over noB loudUpon ByteArray.mk_append_mk ByteArray.extract_mk

theorem clearFall (w : World) (g c : Nat) (cs : Array Value) (ty : TypeId) (h : w.heap[g]? = some (.cells cs 56 (0, 0))) (hs : 3 ≤ cs.size) :
    (Builtin.clear_ #[54] ty #[.slice (some ⟨g, 0, none⟩) 1 c]).run Try.prog w = .ok (.tuple #[]) (w.setCells g 0 [.int .i64 0, .int .i64 0, .int .i64 0]) := by
  have hv : ∀ w, (zeroValue 56).run Try.prog w = .ok (.agg #[.int .i64 0, .int .i64 0, .int .i64 0]) w := fun w => by kernel_rfl
  have hst := run_storeCells_cells (P := Try.prog) g 0 [.int .i64 0, .int .i64 0, .int .i64 0] 0 w (fun j hj => by rw [cell_heap h]; simp at hj; simp; omega) (fun j hj => frozen_heap h _) (by simp [Value.oneCell'])
  have hz : (Builtin.zeroCells (Value.agg #[.int .i64 0, .int .i64 0, .int .i64 0]).cells 1).toList = [.int .i64 0, .int .i64 0, .int .i64 0] := by simp [Builtin.zeroCells, Value.cells]; rfl
  simp [Builtin.clear_, run_underlying Try.underlying54, hv, hz, hst]

set_option maxRecDepth 100000 in
set_option maxHeartbeats 800000 in
theorem Delete_calls (g c : Nat) (cs : Array Value) (w : World) (h : w.heap[g]? = some (.cells cs 56 (0, 0))) (hs : 3 ≤ cs.size) (hc : 1 ≤ c) (hm : c ≤ maxLen) :
    Calls Try.prog 131 #[.slice (some ⟨g, 0, none⟩) 1 c, .int .i64 0, .int .i64 1] w fun e w' => e = .returned (.slice (some ⟨g, 0, none⟩) 0 c) ∧ Mod (fun k => k = g) w w' := by
  have hclr := fun x ty => clearFall (over w NoB x) g c cs ty (by rw [over_heap (lt_heap h) id]; exact h) hs
  have hg := lt_heap h
  obtain ⟨i, z, hi, _⟩ := infoFall
  rw [maxLen_eq] at hm
  by_cases c1 : c = 1
  · subst c1
    go_enter Try.func131, Try.ntmps131
    go_wp2
    refine wp_region_quiet_tail 6 (fun w' => ∃ x, w' = over _ (NoB) x) (by kernel_rfl) (by kernel_rfl) (Cls.drew _ _) ?_
    simp only [List.take_succ_cons, List.take_zero, List.drop_succ_cons, List.drop_zero]
    repeat (go_big_quiet_step (fail))
    refine wpQuiet_nil ?_
    rintro _ ⟨y, rfl⟩
    have hnone := fun (a : Addr) (n : Nat) => run_append_nothing (P := Try.prog) (over w NoB y) 54 54 54 _ i Try.underlying54 hi (some ⟨g, 0, none⟩) 0 1 (Nat.zero_le _) _ (Src.ofSlice (over w NoB y) Try.underlying54 a 0 n [] (by simp) (by simp) (by simp))
    refine wpList_append_run rfl _ _ _ rfl rfl rfl (hnone _ _) ?_
    clear hnone
    go_wp2
    go_ret
    refine ⟨rfl, ?_⟩
    simp only [World.setCells]
    (repeat (first | exact Mod.refl _ _ | refine Mod.drew ?_ | refine Mod.drewN _ ?_ | refine Mod.alloc ?_ _ | refine Mod.setCell ?_ _ _ (fun _ => rfl) | refine Mod.over' ?_ _ (fun _ _ h => h) | refine Mod.over' ?_ _ (fun _ _ h => h.elim)))
  · go_enter Try.func131, Try.ntmps131
    go_wp2
    refine wp_region_quiet_tail 6 (fun w' => ∃ x, w' = over _ (NoB) x) (by kernel_rfl) (by kernel_rfl) (Cls.drew _ _) ?_
    simp only [List.take_succ_cons, List.take_zero, List.drop_succ_cons, List.drop_zero]
    repeat (go_big_quiet_step (fail))
    refine wpQuiet_nil ?_
    rintro _ ⟨y, rfl⟩
    have hnone := fun (a : Addr) (n : Nat) => run_append_nothing (P := Try.prog) (over w NoB y) 54 54 54 _ i Try.underlying54 hi (some ⟨g, 0, none⟩) 0 c (Nat.zero_le _) _ (Src.ofSlice (over w NoB y) Try.underlying54 a 0 n [] (by simp) (by simp) (by simp))
    refine wpList_append_run rfl _ _ _ rfl rfl rfl (hnone _ _) ?_
    clear hnone
    go_wp2
    go_ret
    refine ⟨rfl, ?_⟩
    simp only [World.setCells]
    (repeat (first | exact Mod.refl _ _ | refine Mod.drew ?_ | refine Mod.drewN _ ?_ | refine Mod.alloc ?_ _ | refine Mod.setCell ?_ _ _ (fun _ => rfl) | refine Mod.over' ?_ _ (fun _ _ h => h) | refine Mod.over' ?_ _ (fun _ _ h => h.elim)))

theorem infoChange : ∃ i z, Try.prog.info? 149 = some i ∧ i.zero = some z ∧ i.size = 5 ∧ i.bytes = 64 ∧ z.cells.size = 5 := by
  obtain ⟨i, h1, h2, h3, h4⟩ := info_of (P := Try.prog) (t := 149) (z := .agg #[.int .i64 0, .string ⟨#[]⟩, .string ⟨#[]⟩, .string ⟨#[]⟩, .int .i64 0]) (n := 5) (b := 64) (by kernel_rfl)
  exact ⟨i, _, h1, h2, h3, h4, rfl⟩

theorem DiskAt.vf_ne {w : World} {m : DM} {d : Dk} (h : DiskAt w m d) (hs : d.falls.isSome) : m.vf.ownBlock ≠ some m.bn ∧ m.vf.ownBlock ≠ some m.bs := by
  have hf := h.falls
  cases ho : d.falls with
  | none => rw [ho] at hs; cases hs
  | some f =>
    rw [ho] at hf
    obtain ⟨g, c, cs, hv, _, _, hg, _⟩ := hf
    rw [hv]
    refine ⟨fun e => ?_, fun e => ?_⟩
    · obtain ⟨es, cl, hb⟩ := h.now.heap
      simp only [Value.ownBlock, Option.some.injEq] at e
      rw [e, hb] at hg
      cases hg
    · obtain ⟨es, cl, hb⟩ := h.sure.heap
      simp only [Value.ownBlock, Option.some.injEq] at e
      rw [e, hb] at hg
      cases hg
theorem DiskAt.vl_ne {w : World} {m : DM} {d : Dk} (h : DiskAt w m d) : m.vl.ownBlock ≠ some m.bn ∧ m.vl.ownBlock ≠ some m.bs ∧ (d.falls.isSome → ∀ k, m.vl.ownBlock = some k → m.vf.ownBlock ≠ some k) := by
  rcases h.loose.2 with ⟨hv, _⟩ | ⟨g, cap, cur, hv, _, hg, _⟩
  · rw [hv]
    exact ⟨fun e => (by cases e), fun e => (by cases e), fun _ k e => (by cases e)⟩
  · rw [hv]
    refine ⟨fun e => ?_, fun e => ?_, fun hs k e e2 => ?_⟩
    · obtain ⟨es, cl, hb⟩ := h.now.heap
      simp only [Value.ownBlock, Option.some.injEq] at e
      rw [e, hb] at hg
      cases hg
    · obtain ⟨es, cl, hb⟩ := h.sure.heap
      simp only [Value.ownBlock, Option.some.injEq] at e
      rw [e, hb] at hg
      cases hg
    · have hf := h.falls
      cases ho : d.falls with
      | none => rw [ho] at hs; cases hs
      | some f =>
        rw [ho] at hf
        obtain ⟨g', c', cs', hv', _, _, hg', _⟩ := hf
        rw [hv'] at e2
        simp only [Value.ownBlock, Option.some.injEq] at e e2
        rw [← e2] at e
        rw [e, hg'] at hg
        simp only [Option.some.injEq, Obj.cells.injEq] at hg
        exact absurd hg.2.1 (by decide)

/-- The last step of a change: it is laid behind the loose ones. -/
theorem DiskAt.grow {w W W2 : World} {m : DM} {d : Dk} {c : Chg} {v' : Value} {row : Array Value} {ty : TypeId} (h : DiskAt w m d) (hm : Mod (fun k => k = m.bd ∨ k = m.bn) w W)
    (hcl : W.heap[m.bd]? = some (.cells (m.cells { d with changes := d.changes + 1 }) 136 (0, 0))) (hnow : FilesAt W m.bn (d.now.act c)) (hc : c.ok)
    (how : W2.ownsRow 0 149 5 v' (d.loose.length + 1) (d.loose.flatMap Chg.cells ++ c.cells)) (hgr : (W.drew.alloc (.cells row ty)).grownBy W2 m.vl.ownBlock) (hblk : v'.ownBlock = m.vl.ownBlock ∨ v'.ownBlock = some (W.heap.size + 1)) {S : Nat → Prop} (hS : ∀ k, m.foot k → S k) :
    Mod S w (W2.setCell ⟨m.bd, 2, none⟩ v') ∧ Disk (W2.setCell ⟨m.bd, 2, none⟩ v') m.bd (Since S w (W2.setCell ⟨m.bd, 2, none⟩ v')) { d with changes := d.changes + 1, now := d.now.act c, loose := d.loose ++ [c] } := by
  obtain ⟨u1, u2, u3, u4⟩ := h.bd_ne
  obtain ⟨x1, x2, x3⟩ := h.vl_ne
  have hbd := Nat.lt_of_lt_of_le (lt_heap h.cells) hm.size
  have hm2 : Mod (fun k => m.vl.ownBlock = some k ∨ k = m.bd) W (W2.setCell ⟨m.bd, 2, none⟩ v') := by
    refine Mod.setCell ?_ _ _ (fun _ => .inr rfl)
    exact (((Mod.refl (fun k => m.vl.ownBlock = some k ∨ k = m.bd) W).drew).alloc (.cells row ty)).grown hgr (fun k hk _ => .inl hk)
  have hm3 : Mod (fun k => k = m.bd ∨ k = m.bn ∨ m.vl.ownBlock = some k) w (W2.setCell ⟨m.bd, 2, none⟩ v') :=
    (hm.mono (fun k _ hk => by rcases hk with hk | hk; exact .inl hk; exact .inr (.inl hk))).trans hm2 (fun k _ hk => by rcases hk with hk | hk; exact .inr (.inr hk); exact .inl hk)
  have hsz : W2.heap.size = (W2.setCell ⟨m.bd, 2, none⟩ v').heap.size := by rw [size_setCell]
  refine ⟨hm3.mono (fun k _ hk => by rcases hk with rfl | rfl | hk; exact hS _ (.inl rfl); exact hS _ (.inr (.inl rfl)); exact hS _ (.inr (.inr (.inr (.inl hk))))), { m with vl := v' }, rfl, ⟨?_, ?_, ?_, ?_, ?_, h.apart, ?_⟩, ?_⟩
  · simp only
    rw [heap_setCell_same]
    have e1 : W2.heap[m.bd]? = W.heap[m.bd]? := by
      rw [hgr.block m.bd (by rw [size_alloc]; exact Nat.lt_of_lt_of_le hbd (Nat.le_succ _)) (fun e => u3 e.symm), heap_alloc_lt _ _ _ (by rw [heap_drew]; exact hbd), heap_drew]
    rw [e1, hcl]
    simp only [DM.cells, Option.map_some, setAt_cells, List.setIfInBounds_toArray, List.set_cons_zero, List.set_cons_succ]
  · exact hnow.mod hm2 (fun hk => by rcases hk with hk | hk; exact x1 hk; exact u1 hk.symm)
  · exact h.sure.mod hm3 (fun hk => by rcases hk with hk | hk | hk; exact u2 hk.symm; exact h.apart hk.symm; exact x2 hk)
  · have : (d.loose ++ [c]).flatMap Chg.cells = d.loose.flatMap Chg.cells ++ c.cells := by simp
    simp only
    rw [this, List.length_append]
    refine ownsRow_mod (G := fun k => k = m.bd) how (Mod.setCell (Mod.refl _ _) _ _ (fun _ => rfl)) (fun k hk e => ?_)
    rcases hblk with hb | hb
    · exact u3 (by rw [← hb, hk, e])
    · rw [hb] at hk
      simp only [Option.some.injEq] at hk
      omega
  · refine h.falls.mod hm3 (fun hs k hk e => ?_)
    rcases e with e | e | e
    · exact u4 hs (by rw [hk, e])
    · exact (h.vf_ne hs).1 (by rw [hk, e])
    · exact x3 hs k e hk
  · intro x hx
    rcases List.mem_append.1 hx with hx | hx
    · exact h.changesOk x hx
    · rw [List.mem_singleton.1 hx]; exact hc
  · intro k hk
    rcases hk with rfl | rfl | rfl | hk | hk
    · exact .inl (hS _ (.inl rfl))
    · exact .inl (hS _ (.inr (.inl rfl)))
    · exact .inl (hS _ (.inr (.inr (.inl rfl))))
    · simp only at hk
      rcases hblk with hb | hb
      · exact .inl (hS _ (.inr (.inr (.inr (.inl (by rw [← hb]; exact hk))))))
      · have h1 := (how.lt k hk).2
        rw [hb] at hk
        simp only [Option.some.injEq] at hk
        exact .inr ⟨by have := hm.size; omega, by rw [size_setCell]; exact h1⟩
    · exact .inl (hS _ (.inr (.inr (.inr (.inr hk)))))

end Go.Proofs.Ytgofngilfdnakaa
