/-
  This text proves what cupellaw03.change does to a disk in memory that has power: names of any length, few bytes.
-/
import Derived.Test.YtgofngilfdnakaaDiskR
import Derived.Test.YtgofngilfdnakaaApp
namespace Go.Proofs.Ytgofngilfdnakaa
open Go Go.RowKit
attribute [local go_sem] over_cell over_frozen lt_over le_over noB loudUpon

theorem nameOk_len {s : Str} (h : nameOk s = true) : s.length ≤ 16 := by
  unfold nameOk at h
  simp only [Bool.and_eq_true, decide_eq_true_eq] at h
  exact h.1.2
theorem may_off {d : Dk} {must : Bool} {l : List Str} (hd : d.down = false) (hb : l.any (fun s => !nameOk s) = true) : d.may must l = 30 := by
  unfold Dk.may
  rw [hd, hb]
  rfl
/-- The law's change. -/
def Dk.chg (d : Dk) (q : Int) (a b s : Str) (n : Int) : Int × Dk :=
  if q = 0 then d.append a (few3 s) else if q = 1 then d.write a (few3 s) else if q = 2 then d.move a b else if q = 3 then d.remove a else d.truncate a n
/-- What a change leaves. -/
def DidC (p : Nat) (S : Nat → Prop) (w : World) (r : Int × Dk) (u : Value) (w' : World) : Prop := u = .int .i64 r.1 ∧ Mod S w w' ∧ Disk w' p (Since S w w') r.2
theorem DidC.of {p : Nat} {S : Nat → Prop} {w X : World} {r : Int × Dk} {f : FuncId} {args : Array Value} (hX : Mod NoB w X)
    (h : Calls Try.prog f args X fun e w' => e = .returned (.int .i64 r.1) ∧ Mod S X w' ∧ Disk w' p (Since S X w') r.2) : Calls Try.prog f args X fun e w' => ∃ u, e = .returned u ∧ DidC p S w r u w' :=
  h.mono fun _ _ ⟨he, h1, h2⟩ => ⟨_, he, rfl, (hX.mono (noB_sub S _)).trans h1 (fun _ _ h => h), h2.mono (fun _ _ h => by rcases h with h | ⟨h3, h4⟩; exact .inl h; exact .inr ⟨Nat.le_trans hX.size h3, h4⟩)⟩
theorem DidC.off {p : Nat} {S : Nat → Prop} {d : Dk} {w X : World} {r : Int × Dk} {f : FuncId} {args : Array Value} (hX : Mod NoB w X) (hD : Disk w p S d) (hr : r = (30, d))
    (h : Calls Try.prog f args X fun e w' => e = .returned (.int .i64 30) ∧ Mod NoB X w') : Calls Try.prog f args X fun e w' => ∃ u, e = .returned u ∧ DidC p S w r u w' :=
  h.mono fun _ w' ⟨he, h1⟩ => by
    subst hr
    have hm := hX.trans h1 (fun _ _ h => h)
    exact ⟨_, he, rfl, hm.mono (noB_sub S _), (hD.mod hm (fun _ _ => id)).mono (fun _ _ h => .inl h)⟩
section
variable (p : Nat) (S : Nat → Prop) (d : Dk) (N : Nat) (w X : World) (hX : Mod NoB w X) (h : Disk w p S d) (hF : Fit d N) (hd : d.down = false) (a b s : Str) (n : Int) (ha : a.length ≤ 9223372036854775807) (hb : b.length ≤ 9223372036854775807) (hs : s.length ≤ 60)
include hX h hF hd ha hb hs
omit hb in
theorem Append_did : Calls Try.prog 95 #[.pointer (some ⟨p, 0, none⟩), .string ⟨a.toArray⟩, .string ⟨s.toArray⟩] X fun e w' => ∃ u, e = .returned u ∧ DidC p S w (d.append a s) u w' := by
  have h' := h.mod hX (fun (k : Nat) _ => (id : ¬ NoB k))
  cases hn : nameOk a with
  | true => exact DidC.of hX (Append_calls p S d a s N X h' hF (by have := nameOk_len hn; omega) (by omega))
  | false => exact DidC.off hX h (by unfold Dk.append; rw [may_off hd (by simp [hn]), if_pos (by decide)]) (Append_bad p S d a s X h' ha hd hn)
omit hb in
theorem Write_did : Calls Try.prog 23 #[.pointer (some ⟨p, 0, none⟩), .string ⟨a.toArray⟩, .string ⟨s.toArray⟩] X fun e w' => ∃ u, e = .returned u ∧ DidC p S w (d.write a s) u w' := by
  have h' := h.mod hX (fun (k : Nat) _ => (id : ¬ NoB k))
  cases hn : nameOk a with
  | true => exact DidC.of hX (Write_calls p S d a s N X h' hF (by have := nameOk_len hn; omega) (by omega))
  | false => exact DidC.off hX h (by unfold Dk.write; rw [may_off hd (by simp [hn]), if_pos (by decide)]) (Write_bad p S d a s X h' ha hd hn)
omit hb hs in
theorem Remove_did : Calls Try.prog 91 #[.pointer (some ⟨p, 0, none⟩), .string ⟨a.toArray⟩] X fun e w' => ∃ u, e = .returned u ∧ DidC p S w (d.remove a) u w' := by
  have h' := h.mod hX (fun (k : Nat) _ => (id : ¬ NoB k))
  cases hn : nameOk a with
  | true => exact DidC.of hX (Remove_calls p S d a N X h' hF (by have := nameOk_len hn; omega))
  | false => exact DidC.off hX h (by unfold Dk.remove; rw [may_off hd (by simp [hn]), if_pos (by decide)]) (Remove_bad p S d a X h' ha hd hn)
omit hb hs in
theorem Truncate_did : Calls Try.prog 93 #[.pointer (some ⟨p, 0, none⟩), .string ⟨a.toArray⟩, .int .i64 n] X fun e w' => ∃ u, e = .returned u ∧ DidC p S w (d.truncate a n) u w' := by
  have h' := h.mod hX (fun (k : Nat) _ => (id : ¬ NoB k))
  cases hn : nameOk a with
  | true => exact DidC.of hX (Truncate_calls p S d a n N X h' hF (by have := nameOk_len hn; omega))
  | false => exact DidC.off hX h (by unfold Dk.truncate; rw [may_off hd (by simp [hn]), if_pos (by decide)]) (Truncate_bad p S d a n X h' ha hd hn)
omit hs in
theorem Move_did : Calls Try.prog 101 #[.pointer (some ⟨p, 0, none⟩), .string ⟨a.toArray⟩, .string ⟨b.toArray⟩] X fun e w' => ∃ u, e = .returned u ∧ DidC p S w (d.move a b) u w' := by
  have h' := h.mod hX (fun (k : Nat) _ => (id : ¬ NoB k))
  by_cases hn : nameOk a = false ∨ nameOk b = false
  · exact DidC.off hX h (by unfold Dk.move; rw [may_off hd (by rcases hn with hn | hn <;> simp [hn]), if_pos (by decide)]) (Move_bad p S d a b X h' ha hb hd hn)
  · have h1 : nameOk a = true := by
      cases e : nameOk a with
      | true => rfl
      | false => exact absurd (.inl e) hn
    have h2 : nameOk b = true := by
      cases e : nameOk b with
      | true => rfl
      | false => exact absurd (.inr e) hn
    exact DidC.of hX (Move_calls p S d a b N X h' hF (by have := nameOk_len h1; omega) (by have := nameOk_len h2; omega))
end

set_option maxRecDepth 100000 in
set_option maxHeartbeats 3200000 in
theorem change_calls (p : Nat) (S : Nat → Prop) (d : Dk) (N : Nat) (w : World) (h : Disk w p S d) (hF : Fit d N) (hd : d.down = false) (q k n f0 f1 f2 : Int) (a b s : Str) (ha : a.length ≤ 9223372036854775807) (hb : b.length ≤ 9223372036854775807) (hs : s.length ≤ 9223372036854775807) :
    Calls Try.prog 69 #[.pointer (some ⟨p, 0, none⟩), .int .i64 q, .agg #[.int .i64 k, .string ⟨a.toArray⟩, .string ⟨b.toArray⟩, .string ⟨s.toArray⟩, .int .i64 n, .int .i64 f0, .int .i64 f1, .int .i64 f2]] w fun e w' => ∃ u, e = .returned u ∧ DidC p S w (d.chg q a b s n) u w' := by
  have HFW := Lib.hid (fun X => (few3_calls s X hs).mono (fun e w' (h : e = .returned (.string ⟨(few3 s).toArray⟩) ∧ X = w') => (⟨_, h.1, rfl, h.2⟩ : ∃ u, e = .returned u ∧ u = .string ⟨(few3 s).toArray⟩ ∧ X = w')))
  have hfs : (few3 s).length ≤ 60 := by unfold few3; rw [List.length_take]; omega
  unfold Dk.chg
  generalize few3 s = t at *
  have HA := Lib.hid (fun X hX => Append_did p S d N w X hX h hF hd a t ha hfs)
  have HW := Lib.hid (fun X hX => Write_did p S d N w X hX h hF hd a t ha hfs)
  have HV := Lib.hid (fun X hX => Move_did p S d N w X hX h hF hd a b ha hb)
  have HR := Lib.hid (fun X hX => Remove_did p S d N w X hX h hF hd a ha)
  have HT := Lib.hid (fun X hX => Truncate_did p S d N w X hX h hF hd a n ha)
  clear h hF hd
  obtain ⟨W, hW⟩ : ∃ W, w.alloc (.cells #[.int .i64 k, .string ⟨a.toArray⟩, .string ⟨b.toArray⟩, .string ⟨s.toArray⟩, .int .i64 n, .int .i64 f0, .int .i64 f1, .int .i64 f2] 103) = W := ⟨_, rfl⟩
  have hm0 : Mod NoB w W := by rw [← hW]; exact (Mod.refl _ _).alloc _
  have hbx : W.heap[w.heap.size]? = some (.cells #[.int .i64 k, .string ⟨a.toArray⟩, .string ⟨b.toArray⟩, .string ⟨s.toArray⟩, .int .i64 n, .int .i64 f0, .int .i64 f1, .int .i64 f2] 103 (0, 0)) := by rw [← hW]; exact heap_alloc_new _ _
  have c1 := cell_heap hbx 1
  have c2 := cell_heap hbx 2
  have c3 := cell_heap hbx 3
  have c4 := cell_heap hbx 4
  have cb := lt_heap hbx
  simp only [List.getElem?_toArray, List.getElem?_cons_zero, List.getElem?_cons_succ] at c1 c2 c3 c4
  have HM := Lib.hid hm0
  clear hm0 hbx
  by_cases q0 : q = 0
  · subst q0
    rw [if_pos rfl]
    generalize d.append a t = r at *
    go_enter Try.func69, Try.ntmps69
    go_wp2_with fail
    go_region_law (first
      | (refine step_fn rfl 110 (fun _ _ => by kernel_rfl) #[.tmp 14] #[9] rfl (vs := #[.string ⟨s.toArray⟩]) rfl (HFW.out _) ?_
         rintro u X2 ⟨rfl, rfl⟩)
      | (refine step_fn rfl 95 (fun _ _ => by kernel_rfl) #[.tmp 10, .tmp 12, .tmp 15] #[23, 9, 9] rfl (vs := #[.pointer (some ⟨p, 0, none⟩), .string ⟨a.toArray⟩, .string ⟨t.toArray⟩]) rfl (HA.out _ (HM.out.trans (by (repeat (first | with_reducible exact Mod.refl _ _ | with_reducible refine Mod.drew ?_ | with_reducible refine Mod.alloc ?_ _))) (fun _ _ h => h))) ?_
         intro u X3 hr))
    all_goals
      go_wp2_with fail
      go_ret
      exact ⟨_, rfl, hr⟩
  · by_cases q1 : q = 1
    · subst q1
      rw [if_neg q0, if_pos rfl]
      generalize d.write a t = r at *
      go_enter Try.func69, Try.ntmps69
      go_wp2_with fail
      go_region_law (first
        | (refine step_fn rfl 110 (fun _ _ => by kernel_rfl) #[.tmp 23] #[9] rfl (vs := #[.string ⟨s.toArray⟩]) rfl (HFW.out _) ?_
           rintro u X2 ⟨rfl, rfl⟩)
        | (refine step_fn rfl 23 (fun _ _ => by kernel_rfl) #[.tmp 19, .tmp 21, .tmp 24] #[23, 9, 9] rfl (vs := #[.pointer (some ⟨p, 0, none⟩), .string ⟨a.toArray⟩, .string ⟨t.toArray⟩]) rfl (HW.out _ (HM.out.trans (by (repeat (first | with_reducible exact Mod.refl _ _ | with_reducible refine Mod.drew ?_ | with_reducible refine Mod.alloc ?_ _))) (fun _ _ h => h))) ?_
           intro u X3 hr))
      all_goals
        go_wp2_with fail
        go_ret
        exact ⟨_, rfl, hr⟩
    · have d0 : (q == 0) = false := by simpa using q0
      have d1 : (q == 1) = false := by simpa using q1
      rw [if_neg q0, if_neg q1]
      by_cases q2 : q = 2
      · subst q2
        rw [if_pos rfl]
        generalize d.move a b = r at *
        go_enter Try.func69, Try.ntmps69
        go_wp2_with fail
        refine (HV.out _ HM.out).mono ?_
        rintro e w' ⟨u, rfl, hr⟩
        go_wp2_with fail
        go_ret
        exact ⟨_, rfl, hr⟩
      · have d2 : (q == 2) = false := by simpa using q2
        rw [if_neg q2]
        by_cases q3 : q = 3
        · subst q3
          rw [if_pos rfl]
          generalize d.remove a = r at *
          go_enter Try.func69, Try.ntmps69
          go_wp2_with fail
          refine (HR.out _ HM.out).mono ?_
          rintro e w' ⟨u, rfl, hr⟩
          go_wp2_with fail
          go_ret
          exact ⟨_, rfl, hr⟩
        · have d3 : (q == 3) = false := by simpa using q3
          rw [if_neg q3]
          generalize d.truncate a n = r at *
          go_enter Try.func69, Try.ntmps69
          go_wp2_with fail
          refine (HT.out _ HM.out).mono ?_
          rintro e w' ⟨u, rfl, hr⟩
          go_wp2_with fail
          go_ret
          exact ⟨_, rfl, hr⟩

end Go.Proofs.Ytgofngilfdnakaa
