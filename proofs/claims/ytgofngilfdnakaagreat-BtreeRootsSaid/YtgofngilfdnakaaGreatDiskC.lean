/-
  This text proves what maps.Clone, slices.Clone and slices.Delete do where package disk calls them, and what disk.New, Plan, Read and Sync do; under bounds that the callers meet.
-/
import Derived.Test.YtgofngilfdnakaaGreatDiskB
import Derived.Shelf.SlMaps.Clone
import Derived.Lib.SliceRun
import Derived.Deep.Upon
import Derived.Maps.AppendAt
namespace Go.Proofs.YtgofngilfdnakaaGreat
open Go Go.RowKit
attribute [local go_sem] over_cell over_frozen lt_over le_over noB loudUpon ByteArray.mk_append_mk ByteArray.extract_mk

set_option maxRecDepth 100000 in
set_option maxHeartbeats 800000 in
theorem mapClone_calls (b : Nat) (es : Array MapEntry) (clock : Nat) (w : World) (hb : w.heap[b]? = some (.map es clock)) :
    Calls Tryz.prog 88 #[.map (some b)] w fun e w' => e = .returned (.map (some w.heap.size)) ∧ w' = w.alloc (.map es clock) := by
  have hq := fun w => run_eql_map_nil_sl (P := Tryz.prog) w 139 _ _ (some b) Tryz.underlying139
  go_enter Tryz.func88, Tryz.ntmps88
  go_wp2
  rw [run_callFunc_extern Tryz.func132 (by kernel_rfl) (by kernel_rfl) (by kernel_rfl) (e := Extern.MapsClone.clone) (by kernel_rfl), run_maps_clone_sl w 139 hb]
  simp only [Result.andThen]
  rw [Oper.upon_value]
  go_wp2
  rw [run_typeAssert_map_sl _ 139 _ _ _ _ Tryz.underlying139]
  simp only [Result.andThen]
  rw [Oper.upon_value]
  go_wp2
  go_ret
  exact ⟨rfl, rfl⟩

theorem FilesAt.clone {w : World} {b : Nat} {F : Files} (h : FilesAt w b F) : ∃ es clock, w.heap[b]? = some (.map es clock) ∧ ∀ w' n, w'.heap[n]? = some (.map es clock) → FilesAt w' n F := by
  obtain ⟨es, clock, hb, fit, hs, hD⟩ := h
  exact ⟨es, clock, hb, fun w' n hn => ⟨es, clock, hn, fit, hs, hD⟩⟩

theorem size_alloc (w : World) (o : Obj) : (w.alloc o).heap.size = w.heap.size + 1 := by simp
theorem size_setCell (w : World) (a : Addr) (v : Value) : (w.setCell a v).heap.size = w.heap.size := by simp [World.setCell]

/-- A disk without files. -/
def Dk.fresh : Dk := ⟨[], [], [], -1, none, 0, false⟩

set_option maxRecDepth 100000 in
set_option maxHeartbeats 800000 in
theorem New_calls (w : World) :
    Calls Tryz.prog 22 #[] w fun e w' => e = .returned (.pointer (some ⟨w.heap.size + 2, 0, none⟩)) ∧ Mod NoB w w' ∧ Disk w' (w.heap.size + 2) (Since NoB w w') Dk.fresh := by
  have hmm := @run_makeMap Tryz.prog
  go_enter Tryz.func22, Tryz.ntmps22
  go_wp2
  go_ret
  refine ⟨by simp, ?_, ⟨⟨w.heap.size + 2, w.heap.size, w.heap.size + 1, .slice none 0 0, .slice none 0 0⟩, rfl, ⟨?_, ?_, ?_, ?_, ?_, ?_, ?_⟩, ?_⟩⟩
  · (repeat (first | exact Mod.refl _ _ | refine Mod.drew ?_ | refine Mod.drewN _ ?_ | refine Mod.alloc ?_ _ | refine Mod.setCell ?_ _ _ (fun _ => rfl) | refine Mod.over' ?_ _ (fun _ _ h => h) | refine Mod.over' ?_ _ (fun _ _ h => h.elim)))
  · have := heap_alloc_new ((w.alloc (.map #[] 0)).alloc (.map #[] 0)) (.cells #[.map (some w.heap.size), .map (some (w.heap.size + 1)), .slice none 0 0, .int .i64 (-1), .slice none 0 0, .int .i64 0, .bool false] 142)
    rw [size_alloc, size_alloc] at this
    exact this
  · exact FilesAt.tight (F := []) (((World.ownsMap_made w _ _ _).alloc _).alloc _)
  · have := ((World.ownsMap_made (H := Unit) (w.alloc (.map #[] 0)) Tryz.prog 9 (plainElem Tryz.prog 9)).alloc (.cells #[.map (some w.heap.size), .map (some (w.heap.size + 1)), .slice none 0 0, .int .i64 (-1), .slice none 0 0, .int .i64 0, .bool false] 142))
    simp only [size_alloc] at this
    exact FilesAt.tight (F := []) this
  · exact ⟨rfl, .inl ⟨rfl, rfl⟩⟩
  · exact ⟨none, 0, rfl, fun k hk => by cases hk⟩
  · simp
  · intro c hc; cases hc
  · intro k hk
    right
    simp only [size_alloc]
    rcases hk with rfl | rfl | rfl | hk | hk
    · simp only; omega
    · simp only; omega
    · simp only; omega
    · cases hk
    · cases hk

set_option maxRecDepth 100000 in
set_option maxHeartbeats 800000 in
theorem Read_calls (p : Nat) (S : Nat → Prop) (d : Dk) (name : Str) (w : World) (h : Disk w p S d) (hn : name.length ≤ 1000000) :
    Calls Tryz.prog 99 #[.pointer (some ⟨p, 0, none⟩), .string ⟨name.toArray⟩] w fun e w' => e = .returned (.tuple #[.string ⟨(d.read name).1.toArray⟩, .int .i64 (d.read name).2]) ∧ Mod NoB w w' := by
  have hm0 : Mod NoB w (w.alloc (.cells #[.string ⟨name.toArray⟩] 9)) := (Mod.refl _ _).alloc _
  have HMAY := Lib.hid (may_calls p S d true w.heap.size name [] 1 _ (h.mod hm0 (fun _ _ => id)) (heap_alloc_new _ _) (by simp) (by simpa using (by omega : name.length ≤ 140737488351232)))
  obtain ⟨m, rfl, hd, hS⟩ := h
  obtain ⟨hb, c0, c1, c2, c3, c4, c5, c6, hf⟩ := hd.facts
  have hlook : ∀ x, (Instr.lookup 139 (.map (some m.bn)) (.string ⟨name.toArray⟩) false).run Tryz.prog (over (w.alloc (.cells #[.string ⟨name.toArray⟩] 9)) NoB x) = .ok (.string ⟨(d.now.val name).toArray⟩) (over (w.alloc (.cells #[.string ⟨name.toArray⟩] 9)) NoB x) :=
    fun x => ((hd.now.mod hm0 id).mod (over_mod _ NoB x) id).look1 name (by rw [maxLen_eq]; omega)
  clear hd hS hm0
  unfold Dk.read
  by_cases h0 : d.may true [name] = 0
  · rw [if_neg (by simpa using h0)]
    rw [h0] at HMAY
    clear h0
    go_enter Tryz.func99, Tryz.ntmps99
    go_wp2_with fail
    refine HMAY.out.mono ?_
    rintro e w' ⟨rfl, hm⟩
    obtain ⟨y1, rfl⟩ := hm.over
    go_wp2_with fail
    go_ret2
    refine ⟨rfl, ?_⟩
    (repeat (first | exact Mod.refl _ _ | refine Mod.drew ?_ | refine Mod.drewN _ ?_ | refine Mod.alloc ?_ _ | refine Mod.setCell ?_ _ _ (fun _ => rfl) | refine Mod.over' ?_ _ (fun _ _ h => h) | refine Mod.over' ?_ _ (fun _ _ h => h.elim)))
  · rw [if_pos h0]
    have h0' : (d.may true [name] != 0) = true := by simpa using h0
    have H0 := Lib.hid h0; clear h0
    go_enter Tryz.func99, Tryz.ntmps99
    go_wp2_with fail
    refine HMAY.out.mono ?_
    rintro e w' ⟨rfl, hm⟩
    obtain ⟨y1, rfl⟩ := hm.over
    go_wp2_with fail
    go_ret2
    refine ⟨rfl, ?_⟩
    (repeat (first | exact Mod.refl _ _ | refine Mod.drew ?_ | refine Mod.drewN _ ?_ | refine Mod.alloc ?_ _ | refine Mod.setCell ?_ _ _ (fun _ => rfl) | refine Mod.over' ?_ _ (fun _ _ h => h) | refine Mod.over' ?_ _ (fun _ _ h => h.elim)))

set_option maxRecDepth 100000 in
set_option maxHeartbeats 800000 in
theorem Sync_calls (p : Nat) (S : Nat → Prop) (d : Dk) (w : World) (h : Disk w p S d) :
    Calls Tryz.prog 101 #[.pointer (some ⟨p, 0, none⟩)] w fun e w' => e = .returned (.int .i64 d.sync.1) ∧ Mod S w w' ∧ Disk w' p (Since S w w') d.sync.2 := by
  have HD := Lib.hid (Dead_calls p S d w h)
  obtain ⟨m, rfl, hd, hS⟩ := h
  obtain ⟨hb, c0, c1, c2, c3, c4, c5, c6, hf⟩ := hd.facts
  unfold Dk.sync
  cases hdn : d.down with
  | true =>
    rw [hdn] at c6 HD
    simp only [if_true]
    have HH : Hid (Disk w m.bd S d) := ⟨m, rfl, hd, hS⟩
    clear hd hS hdn
    go_enter Tryz.func101, Tryz.ntmps101
    go_wp2_with fail
    refine HD.out.mono ?_
    rintro e w' ⟨rfl, rfl⟩
    go_wp2_with fail
    go_ret
    exact ⟨rfl, Mod.refl _ _, HH.out.mono (fun _ _ h => .inl h)⟩
  | false =>
    rw [hdn] at c6 HD
    simp only [Bool.false_eq_true, if_false]
    obtain ⟨es, cl, hbn, hcl⟩ := hd.now.clone
    have HCL := Lib.hid hcl; clear hcl
    have HH := Lib.hid hd; clear hd
    have HS := Lib.hid hS; clear hS
    have HDN := Lib.hid hdn; clear hdn
    go_enter Tryz.func101, Tryz.ntmps101
    go_wp2_with fail
    refine HD.out.mono ?_
    rintro e w' ⟨rfl, rfl⟩
    go_wp2_with fail
    refine (mapClone_calls m.bn es cl _ hbn).mono ?_
    rintro e w' ⟨rfl, rfl⟩
    go_wp2_with fail
    go_ret
    have hne : ¬ m.bd = w.heap.size := by omega
    have hm : Mod (fun k => k = m.bd) w (((w.setCell ⟨m.bd, 1, none⟩ (.map (some w.heap.size))).setCell ⟨m.bd, 2, none⟩ (.slice none 0 0)).alloc (.map es cl)) :=
      Mod.alloc (Mod.setCell (Mod.setCell (Mod.refl (fun k => k = m.bd) w) _ _ (fun _ => rfl)) _ _ (fun _ => rfl)) _
    refine ⟨rfl, hm.mono (fun k _ e => HS.out k (.inl e)), ⟨m.bd, m.bn, w.heap.size, .slice none 0 0, m.vf⟩, rfl, ?_, ?_⟩
    · refine ⟨?_, HH.out.now.mod hm (fun e => HH.out.bd_ne.1 e.symm), ?_, ⟨rfl, .inl ⟨rfl, rfl⟩⟩, HH.out.falls.mod hm (fun hs k hk e => HH.out.bd_ne.2.2.2 hs (by rw [hk, e])), ?_, fun c hc => by cases hc⟩
      · rw [heap_alloc_lt _ _ _ (by simpa only [size_setCell] using hb)]
        simp only [heap_setCell_same, HH.out.cells, DM.cells, HDN.out, Option.map_some, setAt_cells, List.setIfInBounds_toArray, List.set_cons_zero, List.set_cons_succ]
      · exact HCL.out _ _ (by have := heap_alloc_new ((w.setCell ⟨m.bd, 1, none⟩ (.map (some w.heap.size))).setCell ⟨m.bd, 2, none⟩ (.slice none 0 0)) (.map es cl); simpa only [size_setCell] using this)
      · have := HH.out.now.lt
        simp only
        omega
    · intro k hk
      rcases hk with rfl | rfl | rfl | hk | hk
      · exact .inl (HS.out _ (.inl rfl))
      · exact .inl (HS.out _ (.inr (.inl rfl)))
      · exact .inr (by simp only [size_setCell, size_alloc]; omega)
      · cases hk
      · exact .inl (HS.out _ (.inr (.inr (.inr (.inr hk)))))

theorem info_of {P : Program} {t : TypeId} {z : Value} {n b : Nat} (h : (P.info? t).map (fun i => (i.zero, i.size, i.bytes)) = some (some z, n, b)) : ∃ i, P.info? t = some i ∧ i.zero = some z ∧ i.size = n ∧ i.bytes = b := by
  cases hi : P.info? t with
  | none => rw [hi] at h; cases h
  | some i =>
    rw [hi] at h
    simp only [Option.map_some, Option.some.injEq, Prod.mk.injEq] at h
    exact ⟨i, rfl, h.1, h.2.1, h.2.2⟩
theorem infoFall : ∃ i z, Tryz.prog.info? 70 = some i ∧ i.zero = some z ∧ i.size = 3 ∧ i.bytes = 24 ∧ z.cells.size = 3 := by
  obtain ⟨i, h1, h2, h3, h4⟩ := info_of (P := Tryz.prog) (t := 70) (z := .agg #[.int .i64 0, .int .i64 0, .int .i64 0]) (n := 3) (b := 24) (by kernel_rfl)
  exact ⟨i, _, h1, h2, h3, h4, rfl⟩

theorem FallsAt.shape {w : World} {v : Value} {o : Option Fall} (h : FallsAt w v o) : ∃ a n c, v = .slice a n c := by
  cases o with
  | none => obtain ⟨a, c, hv, _⟩ := h; exact ⟨a, 0, c, hv⟩
  | some f => obtain ⟨g, c, cs, hv, _⟩ := h; exact ⟨_, 1, c, hv⟩

section
variable {P : Program} {ops : Array Oper} {rest : List Oper} {o : Oper} {a : Act} {w w' : World} {u y v : Value}
theorem run_of_append (s x : Operand) (t : TypeId) (ho : o.op = .call { callee := .builtin .append, args := #[s, x], argTypes := #[t, t] }) (hs : a.eval s = u) (hx : a.eval x = y)
    (hr : (Builtin.append_ #[t, t] o.type #[u, y]).run P w = .ok v w') : (execOp a.eval o).run P w = .ok (.value v) w' := by
  unfold execOp
  simp only [ho, resolve, invoke, builtin, Sem.run_bind, Sem.run_pure, Result.andThen_ok, List.map_toArray, List.map_cons, List.map_nil, hs, hx, hr]
theorem wpList_append_run {Q : Exit → Act → World → Prop} (hgd : o.guard = none) (s x : Operand) (t : TypeId) (ho : o.op = .call { callee := .builtin .append, args := #[s, x], argTypes := #[t, t] }) (hs : a.eval s = u) (hx : a.eval x = y)
    (hr : (Builtin.append_ #[t, t] o.type #[u, y]).run P w = .ok v w') (h : wpList P ops Q rest (a.put o.dst v) w') : wpList P ops Q (o :: rest) a w :=
  wpList_plain hgd fun K hK => by
    unfold Oper.wp
    rw [run_of_append s x t ho hs hx hr, Oper.upon_value]
    exact hK _ _ h
theorem loudAt_append {C : World → Prop} (s x : Operand) (t : TypeId) (ho : o.op = .call { callee := .builtin .append, args := #[s, x], argTypes := #[t, t] }) (hs : a.eval s = u) (hx : a.eval x = y)
    (hr : (Builtin.append_ #[t, t] o.type #[u, y]).run P w = .ok v w') (hC : C w') : loudAt P o a C w v := by
  unfold loudAt
  rw [run_of_append s x t ho hs hx hr]
  exact ⟨rfl, hC⟩
end

/-- A plan's copy. -/
theorem fallAppend (w : World) (ty : TypeId) (v : Value) (o : Option Fall) (h : FallsAt w v o) (hv : v.ownBlock.isSome = true) :
    ∃ v' w', (Builtin.append_ #[68, 68] ty #[.slice (some ⟨w.heap.size, 0, none⟩) 0 0, v]).run Tryz.prog (w.alloc (.cells #[] 70)) = .ok v' w' ∧ Mod NoB w w' ∧ FallsAt w' v' o ∧ ∀ k, v'.ownBlock = some k → w.heap.size ≤ k := by
  obtain ⟨i, z, hi, hz, h3, h24, hzs⟩ := infoFall
  cases o with
  | none =>
    obtain ⟨a, c, rfl, hlt⟩ := h
    cases a with
    | none => cases hv
    | some a =>
    refine ⟨.slice (some ⟨w.heap.size, 0, none⟩) 0 0, w.alloc (.cells #[] 70), ?_, (Mod.refl _ _).alloc _, ⟨_, _, rfl, fun k hk => ?_⟩, fun k hk => ?_⟩
    · exact run_append_nothing (P := Tryz.prog) _ _ _ ty _ i Tryz.underlying68 hi _ 0 0 (Nat.le_refl _) _ (Src.ofSlice _ Tryz.underlying68 a 0 c [] (by simp) (by simp) (by simp))
    · simp only [Value.ownBlock, Option.some.injEq] at hk
      rw [size_alloc]; omega
    · simp only [Value.ownBlock, Option.some.injEq] at hk
      omega
  | some f =>
    obtain ⟨g, c, cs, rfl, h1, h2, hg, hcs, q0, q1, q2⟩ := h
    have hgl := lt_heap hg
    have hown : (w.alloc (.cells #[] 70)).ownsRow w.heap.size 70 3 (.slice (some ⟨w.heap.size, 0, none⟩) 0 0) 0 [] :=
      ⟨rfl, .inr ⟨w.heap.size, 0, #[], rfl, Nat.le_refl _, heap_alloc_new _ _, Nat.le_refl _, by rw [maxLen_eq]; omega, rfl, rfl⟩⟩
    obtain ⟨v', w', hrun, how, hgr, _, hblk⟩ := run_append_own_at (P := Tryz.prog) (w.alloc (.cells #[] 70)) w.heap.size 68 ty 70 i z 3 24 Tryz.underlying68 hi hz h3 h24 hzs (by omega) _ 0 [] hown
      ⟨g, 0, none⟩ 1 c [.int .i64 f.pos, .int .i64 f.keep, .int .i64 f.torn] rfl (fun j u hj => by
        rw [Addr.add_mid, Nat.zero_add, World.cell?_of_block (w := w) (heap_alloc_lt _ _ _ hgl), cell_heap hg j]
        match j with
        | 0 => simpa [q0] using hj
        | 1 => simpa [q1] using hj
        | 2 => simpa [q2] using hj
        | j + 3 => simp at hj) (by simp [Value.oneCell']) (by rw [maxLen_eq]; omega) (by omega) (by rw [size_alloc]; omega)
    refine ⟨v', w', hrun, ?_, ?_, ?_⟩
    · have hm : Mod (fun k => k = w.heap.size) w (w.alloc (.cells #[] 70)) := (Mod.refl _ _).alloc _
      refine (hm.grown hgr (fun k hk _ => ?_)).mono (fun k hk e => by omega)
      simp only [Value.ownBlock, Option.some.injEq] at hk
      exact hk.symm
    · obtain ⟨_, h' | ⟨g', cap', cur', hv', _, hg', hle', hm', hs', ht'⟩⟩ := how
      · omega
      · have hget : ∀ j u, (([] : List Value) ++ [.int .i64 f.pos, .int .i64 f.keep, .int .i64 f.torn])[j]? = some u → cur'[j]? = some u := fun j u hj => by
          rw [← ht', List.getElem?_take] at hj
          split at hj
          · simpa using hj
          · cases hj
        exact ⟨g', cap', cur', hv', by omega, hm', hg', hs', hget 0 _ rfl, hget 1 _ rfl, hget 2 _ rfl⟩
    · intro k hk
      rcases hblk with e | e
      · rw [hk] at e; simp only [Value.ownBlock, Option.some.injEq] at e; omega
      · rw [hk, size_alloc] at e; simp only [Option.some.injEq] at e; omega

set_option maxRecDepth 100000 in
set_option maxHeartbeats 800000 in
theorem fallClone_calls (v : Value) (o : Option Fall) (w : World) (h : FallsAt w v o) :
    Calls Tryz.prog 90 #[v] w fun e w' => ∃ v', e = .returned v' ∧ Mod NoB w w' ∧ FallsAt w' v' o ∧ ∀ k, v'.ownBlock = some k → w.heap.size ≤ k := by
  cases hv : v.ownBlock with
  | none =>
    have hn : o = none := by
      cases o with
      | none => rfl
      | some f => obtain ⟨g, c, cs, rfl, _⟩ := h; cases hv
    subst hn
    obtain ⟨a, c, rfl, hlt⟩ := h
    cases a with
    | some a => cases hv
    | none =>
      have hq := fun w => Lib.run_eql_slice_nil (P := Tryz.prog) w 68 _ none 0 c 0 0 Tryz.underlying68
      clear hv hlt
      go_enter Tryz.func90, Tryz.ntmps90
      go_wp2
      go_ret
      exact ⟨_, rfl, Mod.refl _ _, ⟨none, 0, rfl, fun k hk => by cases hk⟩, fun k hk => by cases hk⟩
  | some b =>
    have hsh : ∃ a n c, v = .slice (some a) n c := by
      cases o with
      | none => obtain ⟨a, c, rfl, _⟩ := h; cases a with
        | none => cases hv
        | some a => exact ⟨a, 0, c, rfl⟩
      | some f => obtain ⟨g, c, cs, rfl, _⟩ := h; exact ⟨_, 1, c, rfl⟩
    obtain ⟨a, n, c, rfl⟩ := hsh
    have hq := fun w => Lib.run_eql_slice_nil (P := Tryz.prog) w 68 _ (some a) n c 0 0 Tryz.underlying68
    obtain ⟨v', w', hrun, hm, hf, hb⟩ := fallAppend w 68 _ o h (by rw [hv]; rfl)
    have HH : Hid (Mod NoB w w' ∧ FallsAt w' v' o ∧ ∀ k, v'.ownBlock = some k → w.heap.size ≤ k) := ⟨hm, hf, hb⟩
    clear hm hf hb hv h
    go_enter Tryz.func90, Tryz.ntmps90
    go_wp2_with (at_builtin; refine wpList_append_run rfl _ _ _ rfl rfl rfl hrun ?_)
    go_ret
    exact ⟨_, rfl, HH.out⟩

set_option maxRecDepth 100000 in
set_option maxHeartbeats 800000 in
theorem Plan_calls (p : Nat) (S : Nat → Prop) (d : Dk) (v : Value) (o : Option Fall) (w : World) (h : Disk w p S d) (hv : FallsAt w v o) :
    Calls Tryz.prog 38 #[.pointer (some ⟨p, 0, none⟩), v] w fun e w' => e = .returned (.tuple #[]) ∧ Mod S w w' ∧ Disk w' p (Since S w w') { d with falls := o } := by
  obtain ⟨m, rfl, hd, hS⟩ := h
  obtain ⟨hb, c0, c1, c2, c3, c4, c5, c6, hf⟩ := hd.facts
  have HC := Lib.hid (fallClone_calls v o w hv)
  have HH := Lib.hid hd; clear hd
  have HS := Lib.hid hS; clear hS
  clear hv
  go_enter Tryz.func38, Tryz.ntmps38
  go_wp2_with fail
  refine HC.out.mono ?_
  rintro e w' ⟨v', rfl, hm, hfa, hblk⟩
  obtain ⟨a', n', c', rfl⟩ := hfa.shape
  have HF := Lib.hid hfa; clear hfa
  have HB := Lib.hid hblk; clear hblk
  obtain ⟨y1, rfl⟩ := hm.over
  have HM := Lib.hid hm; clear hm
  go_wp2_with fail
  go_end0
  have hm2 : Mod (fun k => k = m.bd) w ((over w NoB y1).setCell ⟨m.bd, 4, none⟩ (.slice a' n' c')) := Mod.setCell ((HM.out).mono (noB_sub _ _)) _ _ (fun _ => rfl)
  have hm3 : Mod (fun k => k = m.bd) (over w NoB y1) ((over w NoB y1).setCell ⟨m.bd, 4, none⟩ (.slice a' n' c')) := Mod.setCell (Mod.refl _ _) _ _ (fun _ => rfl)
  refine ⟨rfl, hm2.mono (fun k _ e => HS.out k (.inl e)), { m with vf := (.slice a' n' c') }, rfl, ?_, ?_⟩
  · refine ⟨?_, HH.out.now.mod hm2 (fun e => HH.out.bd_ne.1 e.symm), HH.out.sure.mod hm2 (fun e => HH.out.bd_ne.2.1 e.symm), ownsRow_mod HH.out.loose hm2 (fun k hk e => HH.out.bd_ne.2.2.1 (by rw [hk, e])), HF.out.mod hm3 (fun hs k hk e => ?_), HH.out.apart, HH.out.changesOk⟩
    · simp only [heap_setCell_same, over_heap hb (noB _), HH.out.cells, DM.cells, Option.map_some, setAt_cells, List.setIfInBounds_toArray, List.set_cons_zero, List.set_cons_succ]
    · have := HB.out k hk
      omega
  · intro k hk
    rcases hk with rfl | rfl | rfl | hk | hk
    · exact .inl (HS.out _ (.inl rfl))
    · exact .inl (HS.out _ (.inr (.inl rfl)))
    · exact .inl (HS.out _ (.inr (.inr (.inl rfl))))
    · exact .inl (HS.out _ (.inr (.inr (.inr (.inl hk)))))
    · refine .inr ⟨HB.out k hk, ?_⟩
      rw [size_setCell]
      cases o with
      | none => obtain ⟨a, c, _, hlt⟩ := HF.out; exact hlt k hk
      | some f =>
        obtain ⟨g, c, cs, hq, _, _, hg, _⟩ := HF.out
        cases hq
        simp only [Value.ownBlock, Option.some.injEq] at hk
        subst hk
        exact lt_heap hg

end Go.Proofs.YtgofngilfdnakaaGreat
