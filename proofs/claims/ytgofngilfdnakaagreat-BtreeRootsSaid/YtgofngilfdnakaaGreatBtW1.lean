/-
  This text proves what the package wire's writer does, said of whole bytes: under bounds on lengths.
-/
import Derived.Test.YtgofngilfdnakaaGreatRow
import Derived.Test.YtgofngilfdnakaaGreatUnframe
import Derived.Lib.ConvBytes
namespace Go.Proofs.YtgofngilfdnakaaGreat
open Go Go.RowKit
attribute [local go_sem] over_cell over_frozen lt_over le_over noB loudUpon ByteArray.mk_append_mk ByteArray.extract_mk

abbrev bytesV (s : Str) : List Value := s.map fun c => Value.int .u8 (c.toNat : Int)
/-- A writer in memory, and its bytes: all of it from base on. -/
def WrAt (w : World) (b base : Nat) (out : Str) : Prop := base ≤ b ∧ ∃ a c, w.heap[b]? = some (.cells #[.slice a out.length c] 220 (0, 0)) ∧ w.ownsRow base 5 1 (.slice a out.length c) out.length (bytesV out)
theorem WrAt.mod {w w' : World} {b base : Nat} {out : Str} (h : WrAt w b base out) (hm : Mod NoB w w') : WrAt w' b base out := by
  obtain ⟨h1, a, c, h2, h3⟩ := h
  exact ⟨h1, a, c, (hm.block b (lt_heap h2) id).trans h2, own_of_mod h3 hm (fun _ _ => id)⟩
theorem WrAt.lt {w : World} {b base : Nat} {out : Str} (h : WrAt w b base out) : b < w.heap.size := by
  obtain ⟨h1, a, c, h2, h3⟩ := h
  exact lt_heap h2
theorem infoB : ∃ i z, Tryz.prog.info? 5 = some i ∧ i.zero = some z ∧ i.size = 1 ∧ i.bytes = 1 ∧ z.cells.size = 1 := by
  have h : (Tryz.prog.info? 5).map (fun i => (i.zero, i.size, i.bytes)) = some (some (.int .u8 0), 1, 1) := by kernel_rfl
  cases hi : Tryz.prog.info? 5 with
  | none => rw [hi] at h; cases h
  | some i =>
    rw [hi] at h
    simp only [Option.map_some, Option.some.injEq, Prod.mk.injEq] at h
    exact ⟨i, _, rfl, h.1, h.2.1, h.2.2, rfl⟩
theorem NewWriter_calls (w : World) : Calls Tryz.prog 115 #[] w fun e w' => e = .returned (.pointer (some ⟨w.heap.size, 0, none⟩)) ∧ Mod NoB w w' ∧ WrAt w' w.heap.size w.heap.size [] := by
  go_enter Tryz.func115, Tryz.ntmps115
  go_wp2
  go_ret
  refine ⟨rfl, ?_, Nat.le_refl _, none, 0, heap_alloc_new _ _, World.ownsRow_nil _ _ _ _⟩
  (repeat (first | exact Mod.refl _ _ | refine Mod.drew ?_ | refine Mod.drewN _ ?_ | refine Mod.alloc ?_ _ | refine Mod.setCell ?_ _ _ (fun _ => rfl) | refine Mod.over' ?_ _ (fun _ _ h => h) | refine Mod.over' ?_ _ (fun _ _ h => h.elim)))

set_option maxRecDepth 100000 in
set_option maxHeartbeats 800000 in
theorem WBytes_calls (b base : Nat) (out s : Str) (w : World) (h : WrAt w b base out) (hn : out.length + s.length ≤ 1000000) (hb : base ≤ w.heap.size) :
    Calls Tryz.prog 158 #[.pointer (some ⟨b, 0, none⟩), .string ⟨s.toArray⟩] w fun e w' => e = .returned (.tuple #[]) ∧ Mod (fun k => base ≤ k) w w' ∧ WrAt w' b base (out ++ s) := by
  obtain ⟨h1, a, c, h2, h3⟩ := h
  obtain ⟨i, z, hi, hz, hz1, hz2, hz3⟩ := infoB
  have hlt := lt_heap h2
  have c0 := cell_heap h2 0
  have cf := frozen_heap h2
  have hsrc : Src Tryz.prog 1 9 (.string ⟨s.toArray⟩) s.length (bytesV s) w := Src.ofString w Tryz.underlying9 ⟨s.toArray⟩
  have H2 := Lib.hid h2
  have H3 := Lib.hid h3
  have HS := Lib.hid hsrc
  have HZ := Lib.hid hz
  have HI := Lib.hid hi
  clear h2 h3 hsrc hz hi
  go_enter Tryz.func158, Tryz.ntmps158
  go_wp2_with (at_builtin; refine wpList_append_row rfl _ _ _ _ rfl rfl rfl Tryz.underlying166 HI.out HZ.out hz1 hz2 hz3 H3.out HS.out (by omega) (by omega) hb ?_)
  intro a' c' w' ho hm hbl
  have hne : (Value.slice a out.length c).ownBlock ≠ some b := fun e => absurd (own_type H3.out e H2.out) (by decide)
  have h2' := (hm.block b hlt (fun e => hne e)).trans H2.out
  have hlt' := lt_heap h2'
  have d0 := cell_heap h2' 0
  have df := frozen_heap h2'
  have H2' := Lib.hid h2'
  have HO := Lib.hid ho
  have HM := Lib.hid hm
  clear h2' ho hm c0 cf
  go_wp2
  go_end0
  have hne' : (Value.slice a' (out.length + s.length) c').ownBlock ≠ some b := fun e => absurd (own_type HO.out e H2'.out) (by decide)
  refine ⟨rfl, ?_, h1, a', c', ?_, ?_⟩
  · refine (HM.out.mono (fun k hk e => ?_)).setCell _ _ (fun _ => h1)
    exact (H3.out.lt k e).1
  · rw [heap_setCell_same, H2'.out, List.length_append]
    rfl
  · rw [List.length_append, show bytesV (out ++ s) = bytesV out ++ bytesV s by simp [bytesV]]
    exact own_of_mod HO.out ((Mod.refl (fun k => k = b) _).setCell _ _ (fun _ => rfl)) (fun k hk e => hne' (by rw [hk, e]))

theorem WNumber_calls (b base : Nat) (out : Str) (n k : Nat) (w : World) (h : WrAt w b base out) (hk : k = 1 ∨ k = 4) (hn : n < 18446744073709551616) (hl : out.length ≤ 900000) (hb : base ≤ w.heap.size) :
    Calls Tryz.prog 125 #[.pointer (some ⟨b, 0, none⟩), .int .u64 n, .int .i64 k] w fun e w' => e = .returned (.tuple #[]) ∧ Mod (fun k => base ≤ k) w w' ∧ WrAt w' b base (out ++ numLE n k) := by
  have HN : Hid (Calls Tryz.prog 127 #[.int .u64 n, .int .i64 k] w fun e w' => e = .returned (.string ⟨(numLE n k).toArray⟩) ∧ Mod NoB w w') := by
    rcases hk with rfl | rfl
    · exact Number1_calls n w hn
    · exact Number4_calls n w hn
  have hlen := numLE_length n k
  have HB : Hid (∀ X, Mod NoB w X → Calls Tryz.prog 158 #[.pointer (some ⟨b, 0, none⟩), .string ⟨(numLE n k).toArray⟩] X fun e w' => e = .returned (.tuple #[]) ∧ Mod (fun k => base ≤ k) X w' ∧ WrAt w' b base (out ++ numLE n k)) :=
    fun X hX => WBytes_calls b base out (numLE n k) X (h.mod hX) (by rw [hlen]; rcases hk with rfl | rfl <;> omega) (Nat.le_trans hb hX.size)
  clear h
  go_enter Tryz.func125, Tryz.ntmps125
  go_wp2_with fail
  refine HN.out.mono ?_
  rintro e w1 ⟨rfl, hm⟩
  have HM := Lib.hid hm
  clear hm
  go_wp2_with fail
  refine (HB.out _ HM.out).mono ?_
  rintro e w2 ⟨rfl, hm2, hw2⟩
  have HM2 := Lib.hid hm2
  have HW2 := Lib.hid hw2
  clear hm2 hw2
  go_wp2_with fail
  go_end0
  exact ⟨rfl, (HM.out.mono (noB_sub _ _)).trans HM2.out (fun _ _ h => h), HW2.out⟩
theorem WCount_calls (b base : Nat) (out : Str) (n : Nat) (w : World) (h : WrAt w b base out) (hn : n < 9223372036854775808) (hl : out.length ≤ 900000) (hb : base ≤ w.heap.size) :
    Calls Tryz.prog 116 #[.pointer (some ⟨b, 0, none⟩), .int .i64 n] w fun e w' => e = .returned (.tuple #[]) ∧ Mod (fun k => base ≤ k) w w' ∧ WrAt w' b base (out ++ numLE n 4) := by
  have HN := Lib.hid (WNumber_calls b base out n 4 w h (.inr rfl) (by omega) hl hb)
  clear h
  go_enter Tryz.func116, Tryz.ntmps116
  go_wp2_with fail
  refine HN.out.mono ?_
  rintro e w1 ⟨rfl, hm, hw⟩
  have HM := Lib.hid hm
  have HW := Lib.hid hw
  clear hm hw
  go_wp2_with fail
  go_end0
  exact ⟨rfl, HM.out, HW.out⟩
theorem WText_calls (b base : Nat) (out s : Str) (w : World) (h : WrAt w b base out) (hl : out.length + s.length ≤ 800000) (hb : base ≤ w.heap.size) :
    Calls Tryz.prog 126 #[.pointer (some ⟨b, 0, none⟩), .string ⟨s.toArray⟩] w fun e w' => e = .returned (.tuple #[]) ∧ Mod (fun k => base ≤ k) w w' ∧ WrAt w' b base (out ++ text s) := by
  have HN := Lib.hid (WCount_calls b base out s.length w h (by omega) (by omega) hb)
  have hlen := numLE_length s.length 4
  have HB : Hid (∀ X, w.heap.size ≤ X.heap.size → WrAt X b base (out ++ numLE s.length 4) → Calls Tryz.prog 158 #[.pointer (some ⟨b, 0, none⟩), .string ⟨s.toArray⟩] X fun e w' => e = .returned (.tuple #[]) ∧ Mod (fun k => base ≤ k) X w' ∧ WrAt w' b base ((out ++ numLE s.length 4) ++ s)) :=
    fun X hX hW => WBytes_calls b base _ s X hW (by rw [List.length_append, hlen]; omega) (Nat.le_trans hb hX)
  clear h
  go_enter Tryz.func126, Tryz.ntmps126
  go_wp2_with fail
  refine HN.out.mono ?_
  rintro e w1 ⟨rfl, hm, hw⟩
  have HM := Lib.hid hm
  have HW := Lib.hid hw
  clear hm hw
  go_wp2_with fail
  refine (HB.out _ HM.out.size HW.out).mono ?_
  rintro e w2 ⟨rfl, hm2, hw2⟩
  have HM2 := Lib.hid hm2
  have HW2 := Lib.hid hw2
  clear hm2 hw2
  go_wp2_with fail
  go_end0
  refine ⟨rfl, HM.out.trans HM2.out (fun _ _ h => h), ?_⟩
  rw [text, ← List.append_assoc]
  exact HW2.out
theorem WBool_calls (b base : Nat) (out : Str) (t : Bool) (w : World) (h : WrAt w b base out) (hl : out.length ≤ 900000) (hb : base ≤ w.heap.size) :
    Calls Tryz.prog 124 #[.pointer (some ⟨b, 0, none⟩), .bool t] w fun e w' => e = .returned (.tuple #[]) ∧ Mod (fun k => base ≤ k) w w' ∧ WrAt w' b base (out ++ numLE (if t then 1 else 0) 1) := by
  cases t
  · have HN := Lib.hid (WNumber_calls b base out 0 1 w h (.inl rfl) (by omega) hl hb)
    clear h
    go_enter Tryz.func124, Tryz.ntmps124
    go_wp2_with fail
    refine HN.out.mono ?_
    rintro e w1 ⟨rfl, hm, hw⟩
    have HM := Lib.hid hm
    have HW := Lib.hid hw
    clear hm hw
    go_wp2_with fail
    go_end0
    exact ⟨rfl, HM.out, HW.out⟩
  · have HN := Lib.hid (WNumber_calls b base out 1 1 w h (.inl rfl) (by omega) hl hb)
    clear h
    go_enter Tryz.func124, Tryz.ntmps124
    go_wp2_with fail
    refine HN.out.mono ?_
    rintro e w1 ⟨rfl, hm, hw⟩
    have HM := Lib.hid hm
    have HW := Lib.hid hw
    clear hm hw
    go_wp2_with fail
    go_end0
    exact ⟨rfl, HM.out, HW.out⟩
theorem WAll_calls (b base : Nat) (out : Str) (w : World) (h : WrAt w b base out) (h0 : 0 < out.length) :
    Calls Tryz.prog 117 #[.pointer (some ⟨b, 0, none⟩)] w fun e w' => e = .returned (.string ⟨out.toArray⟩) ∧ w' = w := by
  obtain ⟨h1, a, c, h2, h3⟩ := h
  obtain ⟨_, _, he, hnc, hcm, _, hg⟩ := own_shape h3
  cases he
  obtain ⟨g, rfl⟩ := hg h0
  have hlt := lt_heap h2
  have c0 := cell_heap h2 0
  have hin := own_in h3
  have hcv := run_convert_bytes_arg (P := Tryz.prog) (w := w) 166 5 Tryz.underlying166 Tryz.underlying5 g 0 out.length c (out.map fun c => (c.toNat : Int)) (by simp) (fun i hi => by
    rw [(hin.cell i (by simpa using hi)).2]
    simp [List.getD, List.getElem?_eq_getElem hi]) 9 Tryz.underlying9
  rw [strOfNums_bytes] at hcv
  clear h2 h3 hin
  go_enter Tryz.func117, Tryz.ntmps117
  go_wp2
  go_ret
  exact ⟨rfl, rfl⟩

end Go.Proofs.YtgofngilfdnakaaGreat
