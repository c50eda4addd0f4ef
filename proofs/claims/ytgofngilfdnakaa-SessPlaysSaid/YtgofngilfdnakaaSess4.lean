/-
  This text proves what Open, Is, Count and Close of a session's table do to a table of whatever sessions: under bounds on numbers.
-/
import Derived.Test.YtgofngilfdnakaaSessM
namespace Go.Proofs.Ytgofngilfdnakaa
open Go Go.RowKit
attribute [local go_sem] over_cell over_frozen lt_over le_over noB loudUpon

set_option maxRecDepth 100000 in
set_option maxHeartbeats 800000 in
theorem SIsG_calls (t b k a : Nat) (F : Vs) (s : Int) (w : World) (h : TabAt w t b k (tabD F) a) (h0 : -9223372036854775808 ≤ s) (h1 : s ≤ 9223372036854775807) :
    Calls Try.prog 57 #[.pointer (some ⟨t, 0, none⟩), .int .i64 s] w fun e w' => e = .returned (.bool (F.get s).isSome) ∧ w = w' := by
  obtain ⟨ht, hm⟩ := h
  have hl := hm.lookG h0 h1
  have c0 := cell_heap ht 0
  have tb := lt_heap ht
  simp only [List.getElem?_toArray, List.getElem?_cons_zero] at c0
  generalize (F.get s).getD (.slice none 0 0) = v at hl
  generalize (F.get s).isSome = is at *
  clear hm ht
  go_enter Try.func57, Try.ntmps57
  go_wp2
  go_ret
  exact ⟨rfl, rfl⟩

set_option maxRecDepth 100000 in
set_option maxHeartbeats 800000 in
theorem SCountG_calls (t b k a : Nat) (F : Vs) (s : Int) (aa : Option Addr) (n c : Nat) (w : World) (h : TabAt w t b k (tabD F) a) (h0 : -9223372036854775808 ≤ s) (h1 : s ≤ 9223372036854775807) (hv : (F.get s).getD (.slice none 0 0) = .slice aa n c) :
    Calls Try.prog 59 #[.pointer (some ⟨t, 0, none⟩), .int .i64 s] w fun e w' => e = .returned (.int .i64 n) ∧ w = w' := by
  obtain ⟨ht, hm⟩ := h
  have hl := hm.look1G h0 h1
  rw [hv] at hl
  have c0 := cell_heap ht 0
  have tb := lt_heap ht
  simp only [List.getElem?_toArray, List.getElem?_cons_zero] at c0
  clear hm ht hv
  go_enter Try.func59, Try.ntmps59
  go_wp2
  go_ret
  exact ⟨rfl, rfl⟩

theorem tab_ne {w : World} {t b k a : Nat} {D : DataW Value} (h : TabAt w t b k D a) : t ≠ b := fun e => by
  obtain ⟨ht, es, clock, hb, _⟩ := h
  rw [← e, ht] at hb
  cases hb

set_option maxRecDepth 100000 in
set_option maxHeartbeats 800000 in
theorem SOpenG_bad (t b k a : Nat) (F : Vs) (s : Int) (w : World) (h : TabAt w t b k (tabD F) a) (hs : s < 0 ∨ 64 ≤ s) :
    Calls Try.prog 49 #[.pointer (some ⟨t, 0, none⟩), .int .i64 s] w fun e w' => e = .returned (.int .i64 1) ∧ w = w' := by
  obtain ⟨ht, hm⟩ := h
  have tb := lt_heap ht
  clear hm ht
  rcases hs with hs | hs
  · go_enter Try.func49, Try.ntmps49
    go_wp2
    go_ret
    exact ⟨rfl, rfl⟩
  · have hs0 : ¬ s < 0 := by omega
    go_enter Try.func49, Try.ntmps49
    go_wp2
    go_ret
    exact ⟨rfl, rfl⟩

set_option maxRecDepth 100000 in
set_option maxHeartbeats 800000 in
theorem SOpenG_calls (t b k a : Nat) (F : Vs) (s : Int) (w : World) (h : TabAt w t b k (tabD F) a) (hs0 : 0 ≤ s) (hs1 : s < 64) (hk : k ≤ 1000) :
    Calls Try.prog 49 #[.pointer (some ⟨t, 0, none⟩), .int .i64 s] w fun e w' => e = .returned (.int .i64 0) ∧ Mod (fun q => q = b) w w' ∧ TabAt w' t b (k + 1) (tabD (if (F.get s).isSome then F else F.put s (.slice none 0 0))) a := by
  have htb := tab_ne h
  obtain ⟨ht, hm⟩ := h
  have hl := hm.lookG (s := s) (by omega) (by omega)
  obtain ⟨w1, hrun, hm1, hmd⟩ := hm.putG (s := s) (by omega) (by omega) hk (.slice none 0 0)
  have c0 := cell_heap ht 0
  have tb := lt_heap ht
  simp only [List.getElem?_toArray, List.getElem?_cons_zero] at c0
  have HT : Hid (TabAt w1 t b (k + 1) (tabD (F.put s (.slice none 0 0))) a) := ⟨(hmd.block t tb htb).trans ht, hm1⟩
  have HM := Lib.hid hmd
  have HS : Hid (TabAt w t b (k + 1) (tabD F) a) := ⟨ht, by
    obtain ⟨es, clock, hb, F1, hs, hD⟩ := hm
    exact ⟨es, clock, hb, F1, by omega, hD⟩⟩
  clear hm ht hm1 hmd
  have n0 : ¬ s < 0 := by omega
  have n1 : ¬ 64 ≤ s := by omega
  cases hg : F.get s with
  | none =>
    rw [hg] at hl
    simp only [Option.getD_none, Option.isSome_none] at hl
    simp only [Option.isSome_none, Bool.false_eq_true, if_false]
    clear hg
    go_enter Try.func49, Try.ntmps49
    go_wp2
    go_ret
    exact ⟨rfl, HM.out, HT.out⟩
  | some v =>
    rw [hg] at hl
    simp only [Option.getD_some, Option.isSome_some] at hl
    simp only [Option.isSome_some, if_true]
    clear hg hrun
    go_enter Try.func49, Try.ntmps49
    go_wp2
    go_ret
    exact ⟨rfl, Mod.refl _ _, HS.out⟩

set_option maxRecDepth 100000 in
set_option maxHeartbeats 800000 in
theorem SCloseG_none (t b k a : Nat) (F : Vs) (s : Int) (w : World) (h : TabAt w t b k (tabD F) a) (h0 : -9223372036854775808 ≤ s) (h1 : s ≤ 9223372036854775807) (hg : F.get s = none) :
    Calls Try.prog 53 #[.pointer (some ⟨t, 0, none⟩), .int .i64 s] w fun e w' => e = .returned (.slice none 0 0) ∧ w = w' := by
  have HIS := SIsG_calls t b k a F s w h h0 h1
  rw [hg] at HIS
  have HI := Lib.hid HIS
  clear HIS h
  go_enter Try.func53, Try.ntmps53
  go_wp2_with fail
  refine HI.out.mono ?_
  rintro e w' ⟨rfl, rfl⟩
  simp only [Option.isSome_none]
  go_wp2_with fail
  go_ret
  exact ⟨rfl, rfl⟩

set_option maxRecDepth 100000 in
set_option maxHeartbeats 800000 in
theorem SCloseG_some (t b k a : Nat) (F : Vs) (s : Int) (aa : Option Addr) (n c : Nat) (w : World) (h : TabAt w t b k (tabD F) a) (h0 : -9223372036854775808 ≤ s) (h1 : s ≤ 9223372036854775807) (hg : F.get s = some (.slice aa n c)) (hn : n ≤ a) (ha : a ≤ 1000) :
    Calls Try.prog 53 #[.pointer (some ⟨t, 0, none⟩), .int .i64 s] w fun e w' => e = .returned (.slice aa n c) ∧ Mod (fun q => q = t ∨ q = b) w w' ∧ ∃ k', k' ≤ k ∧ TabAt w' t b k' (tabD (F.del s)) (a - n) := by
  have HIS := SIsG_calls t b k a F s w h h0 h1
  rw [hg] at HIS
  have HI := Lib.hid HIS
  have htb := tab_ne h
  obtain ⟨ht, hm⟩ := h
  have hl := hm.look1G h0 h1
  rw [hg] at hl
  simp only [Option.getD_some] at hl
  obtain ⟨w1, k', hrun, hm1, hkk, hmd⟩ := hm.delG h0 h1 0
  have c0 := cell_heap ht 0
  have tb := lt_heap ht
  simp only [List.getElem?_toArray, List.getElem?_cons_zero] at c0
  have ht1 := (hmd.block t tb htb).trans ht
  have z1 := cell_heap ht1 1
  have zb := lt_heap ht1
  have zf := frozen_heap ht1
  simp only [List.getElem?_toArray, List.getElem?_cons_zero, List.getElem?_cons_succ] at z1
  have HT := Lib.hid ht1
  have HM := Lib.hid hmd
  have H1 := Lib.hid hm1
  have HNE := Lib.hid htb
  clear hm ht hm1 hmd ht1 hg HIS htb
  go_enter Try.func53, Try.ntmps53
  go_wp2_with fail
  refine HI.out.mono ?_
  rintro e w' ⟨rfl, rfl⟩
  simp only [Option.isSome_some]
  go_wp2_with fail
  go_ret
  have hs : Mod (fun q => q = t) w1 (w1.setCell ⟨t, 1, none⟩ (.int .i64 ((a : Int) - (n : Int)))) := (Mod.refl _ _).setCell _ _ (fun _ => rfl)
  refine ⟨rfl, (HM.out.mono (fun _ _ e => .inr e)).trans hs (fun _ _ e => .inl e), k', hkk, ?_, H1.out.mod hs (fun e => HNE.out e.symm)⟩
  have e : ((a : Int) - (n : Int)) = ((a - n : Nat) : Int) := by omega
  rw [e, heap_setCell_same, HT.out]
  rfl

end Go.Proofs.Ytgofngilfdnakaa
