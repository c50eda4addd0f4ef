/-
  This text proves what the disk's small methods do to a disk in memory: under bounds on counts and lengths that the callers meet.
-/
import Derived.Test.YtgofngilfdnakaaGreatDiskA
namespace Go.Proofs.YtgofngilfdnakaaGreat
open Go Go.RowKit
attribute [local go_sem] over_cell over_frozen lt_over le_over noB loudUpon ByteArray.mk_append_mk ByteArray.extract_mk

/-- Where a disk lies: its struct, its two maps, its two slices. -/
structure DM where
  bd : Nat
  bn : Nat
  bs : Nat
  vl : Value
  vf : Value
def DM.foot (m : DM) (k : Nat) : Prop := k = m.bd ∨ k = m.bn ∨ k = m.bs ∨ m.vl.ownBlock = some k ∨ m.vf.ownBlock = some k

def DM.cells (m : DM) (d : Dk) : Array Value := #[.map (some m.bn), .map (some m.bs), m.vl, .int .i64 d.room, m.vf, .int .i64 d.changes, .bool d.down]

/-- The plan: nothing, or one fall. -/
def FallsAt (w : World) (v : Value) : Option Fall → Prop
  | none => ∃ a c, v = .slice a 0 c ∧ (∀ k, v.ownBlock = some k → k < w.heap.size)
  | some f => ∃ g c cs, v = .slice (some ⟨g, 0, none⟩) 1 c ∧ 1 ≤ c ∧ c ≤ maxLen ∧ w.heap[g]? = some (.cells cs 70 (0, 0)) ∧ cs.size = c * 3 ∧ cs[0]? = some (.int .i64 f.pos) ∧ cs[1]? = some (.int .i64 f.keep) ∧ cs[2]? = some (.int .i64 f.torn)

/-- A disk in memory. -/
structure DiskAt (w : World) (m : DM) (d : Dk) : Prop where
  cells : w.heap[m.bd]? = some (.cells (m.cells d) 142 (0, 0))
  now : FilesAt w m.bn d.now
  sure : FilesAt w m.bs d.sure
  loose : w.ownsRow 0 155 5 m.vl d.loose.length (d.loose.flatMap Chg.cells)
  falls : FallsAt w m.vf d.falls
  apart : m.bn ≠ m.bs
  changesOk : ∀ c ∈ d.loose, c.ok

theorem DiskAt.foot_lt {w : World} {m : DM} {d : Dk} (h : DiskAt w m d) {k : Nat} (hk : m.foot k) : k < w.heap.size := by
  rcases hk with rfl | rfl | rfl | hk | hk
  · exact lt_heap h.cells
  · exact h.now.lt
  · exact h.sure.lt
  · exact (h.loose.lt k hk).2
  · have := h.falls
    cases hf : d.falls with
    | none =>
      rw [hf] at this
      obtain ⟨a, c, _, hlt⟩ := this
      exact hlt k hk
    | some f =>
      rw [hf] at this
      obtain ⟨g, c, cs, hv, _, _, hg, _⟩ := this
      rw [hv] at hk
      simp only [Value.ownBlock, Option.some.injEq] at hk
      subst hk
      exact lt_heap hg

theorem ownsRow_mod {w w' : World} {G : Nat → Prop} {base e size : Nat} {v : Value} {n : Nat} {xs : List Value} (h : w.ownsRow base e size v n xs) (hm : Mod G w w') (hG : ∀ k, v.ownBlock = some k → ¬ G k) : w'.ownsRow base e size v n xs := by
  have hlt := h.lt
  obtain ⟨h1, h2⟩ := h
  refine ⟨h1, ?_⟩
  rcases h2 with h2 | ⟨g, cap, cur, hv, hb, hg, r⟩
  · exact .inl h2
  · refine .inr ⟨g, cap, cur, hv, hb, ?_, r⟩
    rw [hm.block g (lt_heap hg) (hG g (by rw [hv]; rfl))]
    exact hg

theorem FallsAt.mod {w w' : World} {G : Nat → Prop} {v : Value} {o : Option Fall} (h : FallsAt w v o) (hm : Mod G w w') (hG : o.isSome = true → ∀ k, v.ownBlock = some k → ¬ G k) : FallsAt w' v o := by
  cases o with
  | none =>
    obtain ⟨a, c, hv, hlt⟩ := h
    exact ⟨a, c, hv, fun k hk => Nat.lt_of_lt_of_le (hlt k hk) hm.size⟩
  | some f =>
    obtain ⟨g, c, cs, hv, h1, h2, hg, r⟩ := h
    refine ⟨g, c, cs, hv, h1, h2, ?_, r⟩
    rw [hm.block g (lt_heap hg) (hG rfl g (by rw [hv]; rfl))]
    exact hg

/-- A disk stays what it is where its blocks stay what they are. -/
theorem DiskAt.mod {w w' : World} {G : Nat → Prop} {m : DM} {d : Dk} (h : DiskAt w m d) (hm : Mod G w w') (hG : ∀ k, m.foot k → ¬ G k) : DiskAt w' m d where
  cells := by rw [hm.block m.bd (lt_heap h.cells) (hG _ (.inl rfl))]; exact h.cells
  now := h.now.mod hm (hG _ (.inr (.inl rfl)))
  sure := h.sure.mod hm (hG _ (.inr (.inr (.inl rfl))))
  loose := ownsRow_mod h.loose hm (fun k hk => hG _ (.inr (.inr (.inr (.inl hk)))))
  falls := h.falls.mod hm (fun _ k hk => hG _ (.inr (.inr (.inr (.inr hk)))))
  apart := h.apart
  changesOk := h.changesOk

/-- The struct lies apart from all else. -/
theorem DiskAt.bd_ne {w : World} {m : DM} {d : Dk} (h : DiskAt w m d) : m.bd ≠ m.bn ∧ m.bd ≠ m.bs ∧ m.vl.ownBlock ≠ some m.bd ∧ (d.falls.isSome → m.vf.ownBlock ≠ some m.bd) := by
  have hc := h.cells
  refine ⟨fun e => ?_, fun e => ?_, fun e => ?_, fun hs e => ?_⟩
  · obtain ⟨es, cl, hb⟩ := h.now.heap
    rw [← e, hc] at hb
    cases hb
  · obtain ⟨es, cl, hb⟩ := h.sure.heap
    rw [← e, hc] at hb
    cases hb
  · rcases h.loose.2 with ⟨hv, _⟩ | ⟨g, cap, cur, hv, _, hg, _⟩
    · rw [hv] at e; cases e
    · rw [hv] at e
      simp only [Value.ownBlock, Option.some.injEq] at e
      rw [e, hc] at hg
      simp only [Option.some.injEq, Obj.cells.injEq] at hg
      exact absurd hg.2.1 (by decide)
  · have hf := h.falls
    cases ho : d.falls with
    | none => rw [ho] at hs; cases hs
    | some f =>
      rw [ho] at hf
      obtain ⟨g, c, cs, hv, _, _, hg, _⟩ := hf
      rw [hv] at e
      simp only [Value.ownBlock, Option.some.injEq] at e
      rw [e, hc] at hg
      simp only [Option.some.injEq, Obj.cells.injEq] at hg
      exact absurd hg.2.1 (by decide)

theorem DiskAt.facts {w : World} {m : DM} {d : Dk} (h : DiskAt w m d) : m.bd < w.heap.size ∧ w.cell? ⟨m.bd, 0, none⟩ = some (.map (some m.bn)) ∧ w.cell? ⟨m.bd, 1, none⟩ = some (.map (some m.bs)) ∧ w.cell? ⟨m.bd, 2, none⟩ = some m.vl ∧
    w.cell? ⟨m.bd, 3, none⟩ = some (.int .i64 d.room) ∧ w.cell? ⟨m.bd, 4, none⟩ = some m.vf ∧ w.cell? ⟨m.bd, 5, none⟩ = some (.int .i64 d.changes) ∧ w.cell? ⟨m.bd, 6, none⟩ = some (.bool d.down) ∧ ∀ i, w.frozen? ⟨m.bd, i, none⟩ = false :=
  ⟨lt_heap h.cells, cell_heap h.cells 0, cell_heap h.cells 1, cell_heap h.cells 2, cell_heap h.cells 3, cell_heap h.cells 4, cell_heap h.cells 5, cell_heap h.cells 6, frozen_heap h.cells⟩

/-- A disk at block p, all of whose blocks are of S. -/
def Disk (w : World) (p : Nat) (S : Nat → Prop) (d : Dk) : Prop := ∃ m : DM, m.bd = p ∧ DiskAt w m d ∧ ∀ k, m.foot k → S k
/-- S, and what has come since w. -/
def Since (S : Nat → Prop) (w w' : World) (k : Nat) : Prop := S k ∨ (w.heap.size ≤ k ∧ k < w'.heap.size)

theorem Disk.mod {w w' : World} {G S : Nat → Prop} {p : Nat} {d : Dk} (h : Disk w p S d) (hm : Mod G w w') (hG : ∀ k, S k → ¬ G k) : Disk w' p S d := by
  obtain ⟨m, hp, hd, hS⟩ := h
  exact ⟨m, hp, hd.mod hm (fun k hk => hG k (hS k hk)), hS⟩
theorem Disk.mono {w : World} {S S' : Nat → Prop} {p : Nat} {d : Dk} (h : Disk w p S d) (hS : ∀ k, k < w.heap.size → S k → S' k) : Disk w p S' d := by
  obtain ⟨m, hp, hd, hS0⟩ := h
  exact ⟨m, hp, hd, fun k hk => hS k (hd.foot_lt hk) (hS0 k hk)⟩

set_option maxHeartbeats 400000 in
theorem Dead_calls (p : Nat) (S : Nat → Prop) (d : Dk) (w : World) (h : Disk w p S d) :
    Calls Tryz.prog 39 #[.pointer (some ⟨p, 0, none⟩)] w fun e w' => e = .returned (.bool d.down) ∧ w = w' := by
  obtain ⟨m, rfl, hd, hS⟩ := h
  obtain ⟨hb, c0, c1, c2, c3, c4, c5, c6, hf⟩ := hd.facts
  go_enter Tryz.func39, Tryz.ntmps39
  go_wp2
  go_ret
  exact ⟨rfl, rfl⟩

set_option maxHeartbeats 400000 in
theorem Changes_calls (p : Nat) (S : Nat → Prop) (d : Dk) (w : World) (h : Disk w p S d) :
    Calls Tryz.prog 37 #[.pointer (some ⟨p, 0, none⟩)] w fun e w' => e = .returned (.int .i64 d.changes) ∧ w = w' := by
  obtain ⟨m, rfl, hd, hS⟩ := h
  obtain ⟨hb, c0, c1, c2, c3, c4, c5, c6, hf⟩ := hd.facts
  go_enter Tryz.func37, Tryz.ntmps37
  go_wp2
  go_ret
  exact ⟨rfl, rfl⟩

set_option maxHeartbeats 400000 in
theorem Used_calls (p : Nat) (S : Nat → Prop) (d : Dk) (w : World) (h : Disk w p S d) (hz : d.now.size ≤ 1000000000000000) :
    Calls Tryz.prog 36 #[.pointer (some ⟨p, 0, none⟩)] w fun e w' => e = .returned (.int .i64 d.now.size) ∧ Mod NoB w w' := by
  obtain ⟨m, rfl, hd, hS⟩ := h
  obtain ⟨hb, c0, c1, c2, c3, c4, c5, c6, hf⟩ := hd.facts
  go_enter Tryz.func36, Tryz.ntmps36
  go_wp2_with fail
  refine (size_calls m.bn d.now _ hd.now hz).mono ?_
  rintro e w' ⟨rfl, hm⟩
  go_wp2_with fail
  go_ret
  exact ⟨rfl, hm⟩

/-- A field of the struct is turned. -/
theorem DiskAt.set {w w' : World} {m : DM} {d d' : Dk} (h : DiskAt w m d) (hm : Mod (fun k => k = m.bd) w w') (hc : w'.heap[m.bd]? = some (.cells (m.cells d') 142 (0, 0)))
    (h1 : d'.now = d.now) (h2 : d'.sure = d.sure) (h3 : d'.loose = d.loose) (h4 : d'.falls = d.falls) : DiskAt w' m d' := by
  obtain ⟨n1, n2, n3, n4⟩ := h.bd_ne
  refine ⟨hc, ?_, ?_, ?_, ?_, h.apart, by rw [h3]; exact h.changesOk⟩
  · rw [h1]; exact h.now.mod hm (fun e => n1 e.symm)
  · rw [h2]; exact h.sure.mod hm (fun e => n2 e.symm)
  · rw [h3]; exact ownsRow_mod h.loose hm (fun k hk e => n3 (by rw [hk, e]))
  · rw [h4]
    exact h.falls.mod hm (fun hs k hk e => n4 hs (by rw [hk, e]))

set_option maxHeartbeats 400000 in
theorem Room_calls (p : Nat) (S : Nat → Prop) (d : Dk) (n : Int) (w : World) (h : Disk w p S d) :
    Calls Tryz.prog 35 #[.pointer (some ⟨p, 0, none⟩), .int .i64 n] w fun e w' => e = .returned (.tuple #[]) ∧ Mod S w w' ∧ Disk w' p S { d with room := n } := by
  obtain ⟨m, rfl, hd, hS⟩ := h
  obtain ⟨hb, c0, c1, c2, c3, c4, c5, c6, hf⟩ := hd.facts
  go_enter Tryz.func35, Tryz.ntmps35
  go_wp2
  go_end0
  have hm : Mod (fun k => k = m.bd) w (w.setCell ⟨m.bd, 3, none⟩ (.int .i64 n)) := (Mod.refl _ _).setCell _ _ (fun _ => rfl)
  refine ⟨rfl, hm.mono (fun k _ e => hS k (.inl e)), m, rfl, hd.set hm ?_ rfl rfl rfl rfl, hS⟩
  simp only [heap_setCell_same, hd.cells, DM.cells, Option.map_some, setAt_cells, List.setIfInBounds_toArray, List.set_cons_zero, List.set_cons_succ]

set_option maxHeartbeats 400000 in
theorem Up_calls (p : Nat) (S : Nat → Prop) (d : Dk) (w : World) (h : Disk w p S d) :
    Calls Tryz.prog 32 #[.pointer (some ⟨p, 0, none⟩)] w fun e w' => e = .returned (.bool d.down) ∧ Mod S w w' ∧ Disk w' p S { d with down := false } := by
  obtain ⟨m, rfl, hd, hS⟩ := h
  obtain ⟨hb, c0, c1, c2, c3, c4, c5, c6, hf⟩ := hd.facts
  cases hdn : d.down with
  | true =>
    rw [hdn] at c6
    have HD := Lib.hid hdn; clear hdn
    go_enter Tryz.func32, Tryz.ntmps32
    go_wp2
    go_ret
    have hm : Mod (fun k => k = m.bd) w (w.setCell ⟨m.bd, 6, none⟩ (.bool false)) := (Mod.refl _ _).setCell _ _ (fun _ => rfl)
    refine ⟨rfl, hm.mono (fun k _ e => hS k (.inl e)), m, rfl, hd.set hm ?_ rfl rfl rfl rfl, hS⟩
    simp only [heap_setCell_same, hd.cells, DM.cells, Option.map_some, setAt_cells, List.setIfInBounds_toArray, List.set_cons_zero, List.set_cons_succ]
  | false =>
    rw [hdn] at c6
    have HD := Lib.hid hdn
    go_enter Tryz.func32, Tryz.ntmps32
    clear hdn
    go_wp2
    go_ret
    refine ⟨rfl, Mod.refl _ _, m, rfl, ?_, hS⟩
    have e : { d with down := false } = d := by rw [← HD.out]
    rw [e]
    exact hd

set_option maxRecDepth 100000 in
set_option maxHeartbeats 400000 in
theorem fits_calls (p : Nat) (S : Nat → Prop) (d : Dk) (more : Int) (w : World) (h : Disk w p S d) (hz : d.now.size ≤ 1000000000000000) (hr : -9223372036854775808 ≤ d.room) (hr1 : d.room ≤ 9223372036854775807) :
    Calls Tryz.prog 150 #[.pointer (some ⟨p, 0, none⟩), .int .i64 more] w fun e w' => e = .returned (.bool (d.fits more)) ∧ Mod NoB w w' := by
  obtain ⟨m, rfl, hd, hS⟩ := h
  obtain ⟨hb, c0, c1, c2, c3, c4, c5, c6, hf⟩ := hd.facts
  have HN := Lib.hid hd.now
  clear hd hS
  unfold Dk.fits
  by_cases g1 : more ≤ 0
  · have g1' : decide (more ≤ 0) = true := by simpa using g1
    rw [g1', Bool.true_or, Bool.true_or]
    go_enter Tryz.func150, Tryz.ntmps150
    go_wp2_with fail
    refine wp_region_quiet_all (fun w' => ∃ x, w' = over _ (NoB) x) (by kernel_rfl) (by kernel_rfl) (Cls.drew _ _) ?_
    repeat (go_big_quiet_step (fail))
    refine wpQuiet_nil ?_
    rintro _ ⟨y, rfl⟩
    go_wp2
    go_ret
    exact ⟨rfl, over_mod _ _ _⟩
  · have g1' : decide (more ≤ 0) = false := by simpa using g1
    rw [g1', Bool.false_or]
    by_cases g2 : d.room < 0
    · have g2' : decide (d.room < 0) = true := by simpa using g2
      rw [g2', Bool.true_or]
      go_enter Tryz.func150, Tryz.ntmps150
      go_wp2_with fail
      refine wp_region_quiet_all (fun w' => ∃ x, w' = over _ (NoB) x) (by kernel_rfl) (by kernel_rfl) (Cls.drew _ _) ?_
      repeat (go_big_quiet_step (fail))
      refine wpQuiet_nil ?_
      rintro _ ⟨y, rfl⟩
      go_wp2
      go_ret
      exact ⟨rfl, over_mod _ _ _⟩
    · have g2' : decide (d.room < 0) = false := by simpa using g2
      rw [g2', Bool.false_or]
      go_enter Tryz.func150, Tryz.ntmps150
      go_wp2_with fail
      refine wp_region_quiet_all (fun w' => ∃ x, w' = over _ (NoB) x) (by kernel_rfl) (by kernel_rfl) (Cls.drew _ _) ?_
      repeat (go_big_quiet_step ((go_at_call 89; exact Calls.cls (fun _ _ h => h) (size_calls m.bn d.now _ (HN.out.mod (over_mod _ _ _) id) hz))))
      refine wpQuiet_nil ?_
      rintro _ ⟨y, rfl⟩
      go_wp2
      go_ret
      exact ⟨rfl, over_mod _ _ _⟩

end Go.Proofs.YtgofngilfdnakaaGreat
